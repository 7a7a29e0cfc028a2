/- Any calls from nothing on, against a plain row of keys and values: the law over plain data. No condition but sizes. -/
import Derived.Test.YtbceikkjogbgeaaKvZ
import Derived.Test.YtbceikkjogbgeaaAm45
namespace Go.Proofs.Ytbceikkjogbgeaa
open Go.RowKit
set_option linter.all false
set_option maxHeartbeats 4000000
/-- A call asked for. -/
structure AskK where
  kind : Int
  key : ByteArray
  value : ByteArray
  lo : ByteArray
  hi : ByteArray
def AskK.row (a : AskK) : List PD := [.sc (.int .i64 a.kind), .sc (.string a.key), .sc (.string a.value), .sc (.string a.lo), .sc (.string a.hi)]
def asksK (as_ : List AskK) : List (List PD) := as_.map AskK.row
def isAs (xs : List (List PD)) : Prop := ∃ as_, xs = asksK as_ ∧ as_.length ≤ 4194304
def strR (K : List ByteArray) : List DV := K.map fun k => .d (.sc (.string k))
def intR (T : List Int) : List DV := T.map fun t => .d (.sc (.int .i64 t))
/-- A slice is settled, wherever it was made. -/
theorem told_freeze2 {k : Nat} {s s' : SL} {st st' : Store} (b sz : Nat) (xs : List (List PD)) (bx : Box) (hb : st[b]? = some bx) (hl : bx.live = true) (hcells : bx.cells = rowsD xs) (hsz : ∀ x ∈ xs, x.length = sz)
    (hst : st' = fzSt b sz xs st) (hs : toldP (fzD b bx.ver sz xs) s s') : Told k s st s' st' := by
  subst hst
  intro E N a hc he hsl
  obtain ⟨E', e1, e2, e3, e4, e5, _⟩ := freeze_env b sz xs bx hb hl hcells hsz E hc he
  refine ⟨E', e1, e2, e3, ⟨hsl.size, fun i => ?_, hsl.defers⟩, fun F hF _ hx => Ext.trans hF hc.len hx e5⟩
  rcases toldP_get hs i with h | h
  · rw [h]
    exact e4 _ _ (hsl.rep i)
  · rw [h]
    trivial
def strP (K : List ByteArray) : List (List PD) := K.map fun k => [.sc (.string k)]
def intP (T : List Int) : List (List PD) := T.map fun t => [.sc (.int .i64 t)]
theorem strP_rows (K : List ByteArray) : rowsD (strP K) = strR K := by
  induction K with
  | nil => rfl
  | cons k K ih => exact congrArg (DV.d (.sc (.string k)) :: ·) ih
theorem intP_rows (T : List Int) : rowsD (intP T) = intR T := by
  induction T with
  | nil => rfl
  | cons k K ih => exact congrArg (DV.d (.sc (.int .i64 k)) :: ·) ih
theorem strP_sz (K : List ByteArray) : ∀ x ∈ strP K, x.length = 1 := by
  intro x hx
  simp only [strP, List.mem_map] at hx
  obtain ⟨_, _, rfl⟩ := hx
  rfl
theorem intP_sz (T : List Int) : ∀ x ∈ intP T, x.length = 1 := by
  intro x hx
  simp only [intP, List.mem_map] at hx
  obtain ⟨_, _, rfl⟩ := hx
  rfl
theorem strP_len (K : List ByteArray) : (strP K).length = K.length := by simp [strP]
theorem intP_len (T : List Int) : (intP T).length = T.length := by simp [intP]
theorem strR_fz (b v sz : Nat) (xs : List (List PD)) (K : List ByteArray) : fzL b v sz xs (strR K) = strR K := by
  induction K with
  | nil => rfl
  | cons k K ih => exact congrArg (DV.d (.sc (.string k)) :: ·) ih
theorem intR_fz (b v sz : Nat) (xs : List (List PD)) (T : List Int) : fzL b v sz xs (intR T) = intR T := by
  induction T with
  | nil => rfl
  | cons k K ih => exact congrArg (DV.d (.sc (.int .i64 k)) :: ·) ih
theorem strR_at {K : List ByteArray} {k : Int} (h0 : 0 ≤ k) (h : k < K.length) : (strR K)[k.toNat]? = some (.d (.sc (.string (K[k.toNat]'(by omega))))) := by
  unfold strR
  rw [List.getElem?_map, List.getElem?_eq_getElem (by omega)]
  rfl
theorem intR_at {T : List Int} {k : Int} (h0 : 0 ≤ k) (h : k < T.length) : (intR T)[k.toNat]? = some (.d (.sc (.int .i64 (T[k.toNat]'(by omega))))) := by
  unfold intR
  rw [List.getElem?_map, List.getElem?_eq_getElem (by omega)]
  rfl
theorem strR_pull (κ : List Nat) (K : List ByteArray) : pullL κ (strR K) = strR K := by
  induction K with
  | nil => rfl
  | cons k K ih => exact congrArg (DV.d (.sc (.string k)) :: ·) ih
theorem intR_pull (κ : List Nat) (T : List Int) : pullL κ (intR T) = intR T := by
  induction T with
  | nil => rfl
  | cons k K ih => exact congrArg (DV.d (.sc (.int .i64 k)) :: ·) ih
theorem strR_len (K : List ByteArray) : (strR K).length = K.length := by simp [strR]
theorem intR_len (T : List Int) : (intR T).length = T.length := by simp [intR]
theorem strR_set {K : List ByteArray} {j : Nat} {x : ByteArray} (h : j < K.length) : splice (strR K) j [.d (.sc (.string x))] = strR (K.set j x) := by
  have h2 : j < (strR K).length := by rw [strR_len]; exact h
  unfold strR at h2 ⊢
  rw [List.map_set, splice, List.length_singleton, List.set_eq_take_append_cons_drop, if_pos h2]
  simp
theorem intR_set {T : List Int} {j : Nat} {x : Int} (h : j < T.length) : splice (intR T) j [.d (.sc (.int .i64 x))] = intR (T.set j x) := by
  have h2 : j < (intR T).length := by rw [intR_len]; exact h
  unfold intR at h2 ⊢
  rw [List.map_set, splice, List.length_singleton, List.set_eq_take_append_cons_drop, if_pos h2]
  simp
theorem ask_row {as_ : List AskK} {i : Int} (h0 : 0 ≤ i) (h : i < as_.length) : (asksK as_).getD i.toNat [] = (as_[i.toNat]'(by omega)).row := by
  have hl : i.toNat < as_.length := by omega
  unfold asksK
  rw [List.getD_eq_getElem?_getD, List.getElem?_map, List.getElem?_eq_getElem hl]
  rfl

structure PlX where
  i : Int
  at_ : Int
  xs : List (List PD)
  cK : List DV
  cV : List DV
  cT : List DV
  vk : Nat
  vv : Nat
  vt : Nat
  n : Nat
def PlX.inv (m : Int) (x : PlX) : Prop := (0 ≤ x.i ∧ x.i ≤ m) ∧ ∃ ps K V T, x.xs = pairsX ps ∧ PlI x.i ps K V T ∧ x.cK = strR K ∧ x.cV = strR V ∧ x.cT = intR T ∧ x.n = K.length
set_option maxRecDepth 1000000 in
theorem v_plays (xs : List (List PD)) (hp0 : isAs xs) : FnV Try.prog 8 [.d (.slc 5 xs)] (boolD true) := by
  obtain ⟨as_, hxs, hal⟩ := id hp0
  have hxl : xs.length = as_.length := by rw [hxs]; simp [asksK]
  obtain ⟨n, hn⟩ : ∃ n : Int, n = as_.length := ⟨_, rfl⟩
  have hnN : n.toNat = as_.length := by omega
  have hn0 : 0 ≤ n := by omega
  obtain ⟨m, hm⟩ : ∃ m : Int, m = min n 60 := ⟨_, rfl⟩
  have hm60 : 0 ≤ m ∧ m ≤ 60 ∧ m ≤ n := by omega
  obtain ⟨GFsH, hFsH⟩ : ∃ F, F = FsH0 := ⟨_, rfl⟩
  obtain ⟨GFsDl, hFsDl⟩ : ∃ F, F = FsDl0 := ⟨_, rfl⟩
  obtain ⟨GFsG, hFsG⟩ : ∃ F, F = FsG0 := ⟨_, rfl⟩
  obtain ⟨GFsR, hFsR⟩ : ∃ F, F = FsR0 := ⟨_, rfl⟩
  obtain ⟨GFsK, hFsK⟩ : ∃ F, F = FsK0 := ⟨_, rfl⟩
  obtain ⟨GFsS, hFsS⟩ : ∃ F, F = FsS0 := ⟨_, rfl⟩
  obtain ⟨GFsU, hFsU⟩ : ∃ F, F = FsU0 := ⟨_, rfl⟩
  have hH : SoundK Try.prog [kn_put GFsH, kn_del GFsDl, kn_get GFsG, kn_range GFsR, kn_right GFsK, kn_has GFsS, kn_runs GFsU] := by subst hFsH hFsDl hFsG hFsR hFsK hFsS hFsU; exact orK_ok ok_put (orK_ok ok_del (orK_ok ok_get (orK_ok ok_range (orK_ok ok_right (orK_ok ok_has (orK_ok ok_runs noK_ok))))))
  have hB : SoundB Try.prog [] := by subst hFsH hFsDl hFsG hFsR hFsK hFsS hFsU; exact noB_ok
  refine FnD_cbv (T := fun _ => tabY [33, 58, 59, 113, 116, 117, 119, 192, 193, 201, 202, 219, 220, 5004] [15, 17, 25, 26, 27, 29, 34, 35, 36, 38, 39, 48, 51]) (H := fun _ => [kn_put GFsH, kn_del GFsDl, kn_get GFsG, kn_range GFsR, kn_right GFsK, kn_has GFsS, kn_runs GFsU]) (tabY_ok _ _) hH follows_mixed Try.func8 rfl Try.ntmps8 (by simp) fun A X W hA hX hW => ?_
  cbv
  have y2 : A.len xs = n := by subst hA; show (xs.length : Int) = n; rw [hxl, hn]
  cbv at y2
  refine loopL (T := fun _ => tabY [33, 58, 59, 113, 116, 117, 119, 192, 193, 201, 202, 219, 220, 5004] [15, 17, 25, 26, 27, 29, 34, 35, 36, 38, 39, 48, 51]) (H := fun _ => [kn_put GFsH, kn_del GFsDl, kn_get GFsG, kn_range GFsR, kn_right GFsK, kn_has GFsS, kn_runs GFsU]) (tabY_ok _ _) hH follows_mixed hA hX
    (fun x : (Int × List (List PD)) ⊕ PlX => match x with | .inl y => (0 ≤ y.1 ∧ y.1 ≤ m) ∧ ∃ ps, y.2 = pairsX ps ∧ PlI y.1 ps [] [] [] | .inr y => y.inv m)
    (fun x => match x with | .inl y => [(0, .d (.slc 5 xs)), (3, .d (.slc 3 y.2)), (4, .d (.sc (.slice none 0 0))), (5, .d (.sc (.slice none 0 0))), (6, .d (.sc (.slice none 0 0))), (7, .d (.sc (.int .i64 y.1)))] | .inr y => [(0, .d (.slc 5 xs)), (3, .d (.slc 3 y.xs)), (4, .view 1 0 y.vk 0 y.n), (5, .view 1 1 y.vv 0 y.n), (6, .view 1 2 y.vt 0 y.n), (7, .d (.sc (.int .i64 y.i)))])
    (fun x => match x with | .inl _ => [] | .inr y => [⟨9, y.cK, true, y.vk, true⟩, ⟨9, y.cV, true, y.vv, true⟩, ⟨3, y.cT, true, y.vt, true⟩])
    (fun x => match x with | .inl y => (m - y.1).toNat | .inr y => (m - y.i).toNat) (.inl (0, [])) ?_ ?_ ?_
  · exact ⟨⟨Int.le_refl 0, hm60.1⟩, [], rfl, PlI.nil⟩
  · refine told_up ?_
    simp [toldUP, UpD, getS, intD, boolD]
  rintro R x hR hinv
  rcases x with ⟨i, ms⟩ | ⟨i, at0, ms, cK, cV, cT, vk, vv, vt, N⟩
  · obtain ⟨⟨h1, h2⟩, ps, hms, hPl⟩ : (0 ≤ i ∧ i ≤ m) ∧ ∃ ps, ms = pairsX ps ∧ PlI i ps [] [] [] := hinv
    cbv
    simp only [y2]
    by_cases hi : i < m
    · have f1 : A.cmp .lss i n = true := by subst hA; exact decide_eq_true (by omega)
      have f2 : A.cmp .lss i 60 = true := by subst hA; exact decide_eq_true (by omega)
      have f3 : A.cond true true false = true := by subst hA; rfl
      have hlt : i.toNat < as_.length := by omega
      obtain ⟨a, ha⟩ : ∃ a, a = as_[i.toNat]'hlt := ⟨_, rfl⟩
      have hrow : xs.getD i.toNat [] = a.row := by rw [hxs, ask_row h1 (by omega), ha]
      obtain ⟨ak, akey, aval, alo, ahi⟩ := a
      have r0 : A.gi (A.lift (A.row xs i)) 0 = ak := by subst hA; simp only [A0, hrow, AskK.row, List.map_cons, List.getElem?_cons_zero, List.getElem?_cons_succ, Nat.zero_add]
      have r1 : A.gs (A.lift (A.row xs i)) (A.pl 0 1) = akey := by subst hA; simp only [A0, hrow, AskK.row, List.map_cons, List.getElem?_cons_zero, List.getElem?_cons_succ, Nat.zero_add]
      have r2 : A.gs (A.lift (A.row xs i)) (A.pl 0 2) = aval := by subst hA; simp only [A0, hrow, AskK.row, List.map_cons, List.getElem?_cons_zero, List.getElem?_cons_succ, Nat.zero_add]
      have r3 : A.gs (A.lift (A.row xs i)) (A.pl 0 3) = alo := by subst hA; simp only [A0, hrow, AskK.row, List.map_cons, List.getElem?_cons_zero, List.getElem?_cons_succ, Nat.zero_add]
      have r4 : A.gs (A.lift (A.row xs i)) (A.pl 0 4) = ahi := by subst hA; simp only [A0, hrow, AskK.row, List.map_cons, List.getElem?_cons_zero, List.getElem?_cons_succ, Nat.zero_add]
      have rh : A.has (A.lift (A.row xs i)) 0 5 [.d (.sc (.int .i64 ak)), .d (.sc (.string akey)), .d (.sc (.string aval)), .d (.sc (.string alo)), .d (.sc (.string ahi))] := by
        subst hA
        simp only [A0, hrow, AskK.row]
        exact ⟨rfl, by simp, rfl⟩
      cbv at f1
      cbv at f2
      cbv at f3
      cbv at r0
      cbv at r1
      cbv at r2
      cbv at r3
      cbv at r4
      cbv at rh
      repeat' first
        | (simp only [f1, f2, f3, r0, r1, r2, r3, r4]; cbv)
        | (refine And.intro ?_ ?_)
      rotate_right 1
      · obtain ⟨bb, hbb⟩ : ∃ bb, bb = A.cond (A.cond (A.scmp .eql akey ⟨#[]⟩) true (A.cmp .gtr (A.size akey) 16)) true (A.cmp .gtr (A.size aval) 64) := ⟨_, rfl⟩
        have hgood : bb = false → ltb none8 akey = true ∧ akey.size ≤ 16 ∧ aval.size ≤ 64 := by
          rw [hbb]
          subst hA
          show (bif (bif decide (akey = none8) then true else decide ((16 : Int) < (akey.size : Int))) then true else decide ((64 : Int) < (aval.size : Int))) = false → _
          intro h
          by_cases g1 : akey = none8
          · rw [decide_eq_true g1] at h
            exact absurd h (by simp)
          · rw [decide_eq_false g1] at h
            by_cases g2 : (16 : Int) < (akey.size : Int)
            · rw [decide_eq_true g2] at h
              exact absurd h (by simp)
            · rw [decide_eq_false g2] at h
              by_cases g3 : (64 : Int) < (aval.size : Int)
              · rw [decide_eq_true g3] at h
                exact absurd h (by simp)
              · exact ⟨ltb_not (ltb_empty akey) g1, by omega, by omega⟩
        have fB := hbb.symm
        cbv at fB
        cases bb
        · obtain ⟨gk1, gk2, gk3⟩ := hgood rfl
          simp only [fB]
          cbv
          obtain ⟨ABOX, hABOX⟩ : ∃ b : List DV, b = [.d (.sc (.int .i64 ak)), .d (.sc (.string akey)), .d (.sc (.string aval)), .d (.sc (.string alo)), .d (.sc (.string ahi))] := ⟨_, rfl⟩
          refine unrollL (T := fun _ => tabY [33, 58, 59, 113, 116, 117, 119, 192, 193, 201, 202, 219, 220, 5004] [15, 17, 25, 26, 27, 29, 34, 35, 36, 38, 39, 48, 51]) (H := fun _ => [kn_put GFsH, kn_del GFsDl, kn_get GFsG, kn_range GFsR, kn_right GFsK, kn_has GFsS, kn_runs GFsU]) (tabY_ok _ _) hH follows_mixed hA hX 1 fun R2 hR2 => ?_
          cbv
          refine hR2 _ _ _ ?_
          cbv
          have l0 : A.cmp .lss 0 0 = false := by subst hA; rfl
          cbv at l0
          simp only [l0]
          cbv
          have hA2 : akey ∉ ([] : List ByteArray) := by simp
          have u1 : A.cmp .lss (-1) 0 = true := by subst hA; rfl
          have u2 : A.cmp .geq (-1) 0 = false := by subst hA; rfl
          have u3 : A.not (A.beq false false) = false := by subst hA; rfl
          have u4 : A.cmp .neq 0 0 = false := by subst hA; rfl
          have u5 : A.cond false true false = false := by subst hA; rfl
          have u6 : A.cond true false false = false := by subst hA; rfl
          have u7 : A.cmp .geq 0 32 = false := by subst hA; rfl
          cbv at u1
          cbv at u2
          cbv at u3
          cbv at u4
          cbv at u5
          cbv at u6
          cbv at u7
          have hfacts : True ∧ True ∧ True := ⟨trivial, trivial, trivial⟩
          by_cases e1 : ak = 1
          · subst e1
            have z1 : A.cmp .eql 1 1 = true := by subst hA; rfl
            cbv at z1
            obtain ⟨qs, hq1, hq2⟩ := hPl.putNew (value := aval) hA2 (by decide) gk1 gk2 gk3 h1 (by omega)
            obtain ⟨ms2, hms2⟩ : ∃ ms2, ms2 = pairsX qs := ⟨_, rfl⟩
            have p1 : GFsH.put ms akey aval = (ms2, 0) := by subst hFsH; rw [hms, hms2]; exact hq1
            cbv at p1
            ((with_reducible refine goL (c := .region 15 _ _) (T := fun _ => tabY [33, 58, 59, 113, 116, 117, 119, 192, 193, 201, 202, 219, 220, 5004] []) (H := fun _ => [kn_put GFsH, kn_del GFsDl, kn_get GFsG, kn_range GFsR, kn_right GFsK, kn_has GFsS, kn_runs GFsU]) (tabY_ok _ _) hH follows_mixed hA hX ?_) <;> cbv)
            repeat' first
              | (simp only [z1, p1, u1, u4, u5, u6, u7]; cbv)
              | (refine And.intro ?_ ?_)
              | ((with_reducible refine goL (c := .region 17 _ _) (T := fun _ => tabY [33, 58, 59, 113, 116, 117, 119, 192, 193, 201, 202, 219, 220, 5004] []) (H := fun _ => [kn_put GFsH, kn_del GFsDl, kn_get GFsG, kn_range GFsR, kn_right GFsK, kn_has GFsS, kn_runs GFsU]) (tabY_ok _ _) hH follows_mixed hA hX ?_) <;> cbv)
            rotate_right 1
            · refine regionL [1000001] [] (T := fun _ => tabY [33, 58, 59, 113, 116, 117, 119, 192, 193, 201, 202, 219, 220, 5004] []) (H := fun _ => [kn_put GFsH, kn_del GFsDl, kn_get GFsG, kn_range GFsR, kn_right GFsK, kn_has GFsS, kn_runs GFsU]) (B := fun _ => []) (R := fun _ => []) (A := A) (tabY_ok _ _) hH noB_ok noR_ok follows_mixed hA hX (by kernel_rfl) (by kernel_rfl) (by kernel_rfl) ?_
              cbv
              obtain ⟨K2, hK2⟩ : ∃ K2, K2 = ([] : List ByteArray) ++ [akey] := ⟨_, rfl⟩
              obtain ⟨V2, hV2⟩ : ∃ V2, V2 = ([] : List ByteArray) ++ [aval] := ⟨_, rfl⟩
              obtain ⟨T2, hT2⟩ : ∃ T2, T2 = ([] : List Int) ++ [1] := ⟨_, rfl⟩
              rw [← hK2, ← hV2, ← hT2] at hq2
              obtain ⟨cK2, hcK0⟩ : ∃ c, c = A.rows [[.sc (.string akey)]] := ⟨_, rfl⟩
              obtain ⟨cV2, hcV0⟩ : ∃ c, c = A.rows [[.sc (.string aval)]] := ⟨_, rfl⟩
              obtain ⟨cT2, hcT0⟩ : ∃ c, c = A.rows [[.sc (.int .i64 1)]] := ⟨_, rfl⟩
              have hcK2 : cK2 = strR K2 := by rw [hcK0, hK2]; subst hA; simp [A0, strR, rowsD]
              have hcV2 : cV2 = strR V2 := by rw [hcV0, hV2]; subst hA; simp [A0, strR, rowsD]
              have hcT2 : cT2 = intR T2 := by rw [hcT0, hT2]; subst hA; simp [A0, intR, rowsD]
              obtain ⟨N2, hN0⟩ : ∃ N2, N2 = 1 := ⟨_, rfl⟩
              have hN2 : N2 = K2.length := by rw [hK2, hN0]; rfl
              have n1 : A.lenN [[.sc (.string akey)]] = N2 := by subst hA; exact hN0.symm
              have n2 : A.lenN [[.sc (.string aval)]] = N2 := by subst hA; exact hN0.symm
              have n3 : A.lenN [[.sc (.int .i64 1)]] = N2 := by subst hA; exact hN0.symm
              have n4 := hcK0.symm
              have n5 := hcV0.symm
              have n6 := hcT0.symm
              cbv at n1
              cbv at n2
              cbv at n3
              cbv at n4
              cbv at n5
              cbv at n6
              repeat' (refine And.intro ?_ ?_)
              rotate_right 1
              · simp only [n1, n2, n3, n4, n5, n6]
                have hq3 : PlI (i + 1) qs K2 V2 T2 := hq2.mono (by omega)
                have w1 : GFsK.right ms2 = true := by subst hFsK; rw [hms2]; exact hq2.ok.right
                have hlm : ms2.length = N2 := by rw [hms2, pairsX_length, hN2, hq2.len]
                have w2 : A.cmp .neq (A.len ms2) (A.int N2) = false := by
                  subst hA
                  show (!decide ((ms2.length : Int) = (N2 : Int))) = false
                  rw [hlm, decide_eq_true rfl]
                  rfl
                have w3 : A.not true = false := by subst hA; rfl
                have w4 : A.cond false true false = false := by subst hA; rfl
                have hpk : ∀ κ, pullL κ cK2 = cK2 := fun κ => by rw [hcK2]; exact strR_pull _ _
                have hpv : ∀ κ, pullL κ cV2 = cV2 := fun κ => by rw [hcV2]; exact strR_pull _ _
                have hpt : ∀ κ, pullL κ cT2 = cT2 := fun κ => by rw [hcT2]; exact intR_pull _ _
                have ei : IntKind.wrap .i64 (i + 1) = i + 1 := wrap_i64 (by unfold r64; omega)
                cbv at w1
                cbv at w2
                cbv at w3
                cbv at w4
                ((with_reducible refine goL (c := .region 51 _ _) (T := fun _ => tabY [33, 58, 59, 113, 116, 117, 119, 192, 193, 201, 202, 219, 220, 5004] []) (H := fun _ => [kn_put GFsH, kn_del GFsDl, kn_get GFsG, kn_range GFsR, kn_right GFsK, kn_has GFsS, kn_runs GFsU]) (tabY_ok _ _) hH follows_mixed hA hX ?_) <;> cbv)
                repeat' first
                  | (simp only [w1, w2, w3, w4]; cbv)
                  | (refine And.intro ?_ ?_)
                all_goals first
                  | (subst hA; exact rfl)
                  | (subst hA; show Region.lexB _ _ = true; kernel_rfl)
                  | (subst hA; show turnsB _ = true; kernel_rfl)
                  | (subst hA; intro q; exact q)
                  | (subst hA; intro _; exact trivial)
                  | (subst hA; intro q; simpa [A0] using q)
                  | (subst hA; intro _; exact rfl)
                  | (subst hFsH; rw [hms]; exact hPl.ok.isP)
                  | (subst hFsDl; rw [hms]; exact hPl.ok.isP)
                  | (subst hFsG; rw [hms]; exact hPl.ok.isP)
                  | (subst hFsR; rw [hms]; exact hPl.ok.isP)
                  | (subst hFsK; rw [hms]; exact hPl.ok.isP)
                  | (subst hFsK; rw [hms2]; exact hq2.ok.isP)
                  | (subst hA; exact hfacts.1)
                  | (subst hA; exact hfacts.2.1)
                  | (subst hA; exact hfacts.2.2)
                  | (subst hA; simp only [A0]; omega)
                  | (subst hA; simp only [A0, List.length_cons, List.length_nil]; omega)
                  | (subst hA
                     rw [hR]
                     refine ⟨.inr ⟨i + 1, 0, ms2, cK2, cV2, cT2, 0, 0, 0, N2⟩, ⟨⟨by show 0 ≤ i + 1; omega, by show i + 1 ≤ m; omega⟩, qs, K2, V2, T2, hms2, hq3, hcK2, hcV2, hcT2, hN2⟩, (by show (m - (i + 1)).toNat < (m - i).toNat; omega), told_keep [1, 2, 3] rfl ?_ ?_⟩
                     · show [_, _, _] = [_, _, _]
                       show _ = [(⟨_, pullL [1, 2, 3] cK2, _, _, _⟩ : Box), (⟨_, pullL [1, 2, 3] cV2, _, _, _⟩ : Box), (⟨_, pullL [1, 2, 3] cT2, _, _, _⟩ : Box)]
                       rw [hpk, hpv, hpt]
                       try rfl
                     · refine ⟨.inl rfl, .inl rfl, .inl rfl, .inl rfl, .inl rfl, .inl ?_, trivial⟩
                       show DV.d (.sc (.int .i64 (i + 1))) = .d (.sc (.int .i64 (IntKind.wrap .i64 (i + 1))))
                       rw [ei])
                  | fail
              all_goals first
                | (subst hA; exact rfl)
                | (subst hA; intro q; exact q)
                | (subst hA; intro _; exact trivial)
                | (subst hA; intro _; exact rfl)
                | (subst hA; intro q; simpa [A0] using q)
                | (subst hA; simp only [A0, List.length_cons, List.length_nil]; omega)
                | fail
            all_goals first
              | (subst hA; exact rfl)
              | (subst hA; show Region.lexB _ _ = true; kernel_rfl)
              | (subst hA; show turnsB _ = true; kernel_rfl)
              | (subst hA; intro q; exact q)
              | (subst hA; intro _; exact trivial)
              | (subst hA; intro _; exact rfl)
              | (subst hFsH; rw [hms]; exact hPl.ok.isP)
              | (subst hFsDl; rw [hms]; exact hPl.ok.isP)
              | (subst hFsG; rw [hms]; exact hPl.ok.isP)
              | (subst hFsR; rw [hms]; exact hPl.ok.isP)
              | (subst hFsK; rw [hms]; exact hPl.ok.isP)
              | (subst hFsK; rw [hms2]; exact hq2.ok.isP)
              | (subst hA; exact hfacts.1)
              | (subst hA; exact hfacts.2.1)
              | (subst hA; exact hfacts.2.2)
              | (subst hA; simp only [A0]; omega)
              | (subst hA; simp only [A0, List.length_cons, List.length_nil]; omega)
              | (subst hA; intro q; simpa [A0] using q)
              | (subst hA; intro q; simp [A0] at q; done)
              | fail
          · have z1 : A.cmp .eql ak 1 = false := by subst hA; exact decide_eq_false e1
            cbv at z1
            by_cases e2 : ak = 2
            · subst e2
              have z2 : A.cmp .eql 2 2 = true := by subst hA; rfl
              have p1 : GFsDl.del ms akey = (ms, false) := by subst hFsDl; rw [hms]; exact hPl.delNo hA2
              cbv at z2
              cbv at p1
              ((with_reducible refine goL (c := .region 15 _ _) (T := fun _ => tabY [33, 58, 59, 113, 116, 117, 119, 192, 193, 201, 202, 219, 220, 5004] []) (H := fun _ => [kn_put GFsH, kn_del GFsDl, kn_get GFsG, kn_range GFsR, kn_right GFsK, kn_has GFsS, kn_runs GFsU]) (tabY_ok _ _) hH follows_mixed hA hX ?_) <;> cbv)
              repeat' first
                | (simp only [z1, z2, p1, u2, u3]; cbv)
                | (refine And.intro ?_ ?_)
                | ((with_reducible refine goL (c := .region 29 _ _) (T := fun _ => tabY [33, 58, 59, 113, 116, 117, 119, 192, 193, 201, 202, 219, 220, 5004] []) (H := fun _ => [kn_put GFsH, kn_del GFsDl, kn_get GFsG, kn_range GFsR, kn_right GFsK, kn_has GFsS, kn_runs GFsU]) (tabY_ok _ _) hH follows_mixed hA hX ?_) <;> cbv)
              rotate_right 1
              · have hq3 : PlI (i + 1) ps [] [] [] := hPl.mono (by omega)
                have w1 : GFsK.right ms = true := by subst hFsK; rw [hms]; exact hPl.ok.right
                have hlm : ms.length = 0 := by rw [hms, pairsX_length, ← hPl.len]; rfl
                have w2 : A.cmp .neq (A.len ms) 0 = false := by
                  subst hA
                  show (!decide ((ms.length : Int) = 0)) = false
                  rw [hlm]
                  rfl
                have w3 : A.not true = false := by subst hA; rfl
                have w4 : A.cond false true false = false := by subst hA; rfl
                have ei : IntKind.wrap .i64 (i + 1) = i + 1 := wrap_i64 (by unfold r64; omega)
                cbv at w1
                cbv at w2
                cbv at w3
                cbv at w4
                ((with_reducible refine goL (c := .region 51 _ _) (T := fun _ => tabY [33, 58, 59, 113, 116, 117, 119, 192, 193, 201, 202, 219, 220, 5004] []) (H := fun _ => [kn_put GFsH, kn_del GFsDl, kn_get GFsG, kn_range GFsR, kn_right GFsK, kn_has GFsS, kn_runs GFsU]) (tabY_ok _ _) hH follows_mixed hA hX ?_) <;> cbv)
                repeat' first
                  | (simp only [w1, w2, w3, w4]; cbv)
                  | (refine And.intro ?_ ?_)
                all_goals first
                  | (subst hA; exact rfl)
                  | (subst hA; show Region.lexB _ _ = true; kernel_rfl)
                  | (subst hA; show turnsB _ = true; kernel_rfl)
                  | (subst hA; intro q; exact q)
                  | (subst hA; intro _; exact trivial)
                  | (subst hA; intro _; exact rfl)
                  | (subst hFsH; rw [hms]; exact hPl.ok.isP)
                  | (subst hFsDl; rw [hms]; exact hPl.ok.isP)
                  | (subst hFsG; rw [hms]; exact hPl.ok.isP)
                  | (subst hFsR; rw [hms]; exact hPl.ok.isP)
                  | (subst hFsK; rw [hms]; exact hPl.ok.isP)
                  | (subst hFsK; rw [hms2]; exact hq2.ok.isP)
                  | (subst hA; exact hfacts.1)
                  | (subst hA; exact hfacts.2.1)
                  | (subst hA; exact hfacts.2.2)
                  | (subst hA; simp only [A0]; omega)
                  | (subst hA; simp only [A0, List.length_cons, List.length_nil]; omega)
                  | (subst hA; intro q; simpa [A0] using q)
                  | (subst hA; intro q; simp [A0] at q; done)
                  | (subst hA
                     rw [hR]
                     refine ⟨.inl (i + 1, ms), ⟨⟨by show 0 ≤ i + 1; omega, by show i + 1 ≤ m; omega⟩, ps, hms, hq3⟩, (by show (m - (i + 1)).toNat < (m - i).toNat; omega), told_keep [] rfl rfl ?_⟩
                     refine ⟨.inl rfl, .inl rfl, .inl rfl, .inl rfl, .inl rfl, .inl ?_, trivial⟩
                     show DV.d (.sc (.int .i64 (i + 1))) = .d (.sc (.int .i64 (IntKind.wrap .i64 (i + 1))))
                     rw [ei])
                  | fail
              all_goals first
                | (subst hA; exact rfl)
                | (subst hA; show Region.lexB _ _ = true; kernel_rfl)
                | (subst hA; show turnsB _ = true; kernel_rfl)
                | (subst hA; intro q; exact q)
                | (subst hA; intro _; exact trivial)
                | (subst hA; intro _; exact rfl)
                | (subst hFsH; rw [hms]; exact hPl.ok.isP)
                | (subst hFsDl; rw [hms]; exact hPl.ok.isP)
                | (subst hFsG; rw [hms]; exact hPl.ok.isP)
                | (subst hFsR; rw [hms]; exact hPl.ok.isP)
                | (subst hFsK; rw [hms]; exact hPl.ok.isP)
                | (subst hFsK; rw [hms2]; exact hq2.ok.isP)
                | (subst hA; exact hfacts.1)
                | (subst hA; exact hfacts.2.1)
                | (subst hA; exact hfacts.2.2)
                | (subst hA; simp only [A0]; omega)
                | (subst hA; simp only [A0, List.length_cons, List.length_nil]; omega)
                | (subst hA; intro q; simpa [A0] using q)
                | (subst hA; intro q; simp [A0] at q; done)
                | fail
            · have z2 : A.cmp .eql ak 2 = false := by subst hA; exact decide_eq_false e2
              cbv at z2
              by_cases e3 : ak = 3
              · subst e3
                have z3 : A.cmp .eql 3 3 = true := by subst hA; rfl
                cbv at z3
                obtain ⟨E8, hE8⟩ : ∃ E8, E8 = none8 := ⟨_, rfl⟩
                have p1 : GFsG.get ms akey = (⟨E8, E8, 0⟩, false) := by subst hFsG; rw [hms, hE8]; exact hPl.gotNo hA2
                cbv at p1
                ((with_reducible refine goL (c := .region 15 _ _) (T := fun _ => tabY [33, 58, 59, 113, 116, 117, 119, 192, 193, 201, 202, 219, 220, 5004] []) (H := fun _ => [kn_put GFsH, kn_del GFsDl, kn_get GFsG, kn_range GFsR, kn_right GFsK, kn_has GFsS, kn_runs GFsU]) (tabY_ok _ _) hH follows_mixed hA hX ?_) <;> cbv)
                repeat' first
                  | (simp only [z1, z2, z3, p1, u2, u3]; cbv)
                  | (refine And.intro ?_ ?_)
                  | ((with_reducible refine goL (c := .region 38 _ _) (T := fun _ => tabY [33, 58, 59, 113, 116, 117, 119, 192, 193, 201, 202, 219, 220, 5004] []) (H := fun _ => [kn_put GFsH, kn_del GFsDl, kn_get GFsG, kn_range GFsR, kn_right GFsK, kn_has GFsS, kn_runs GFsU]) (tabY_ok _ _) hH follows_mixed hA hX ?_) <;> cbv)
                rotate_right 1
                · refine regionL [] [] (T := fun _ => tabY [33, 58, 59, 113, 116, 117, 119, 192, 193, 201, 202, 219, 220, 5004, 5005] []) (H := fun _ => [kn_put GFsH, kn_del GFsDl, kn_get GFsG, kn_range GFsR, kn_right GFsK, kn_has GFsS, kn_runs GFsU]) (B := fun _ => []) (R := fun _ => []) (A := A) (tabY_ok _ _) hH noB_ok noR_ok follows_mixed hA hX (by kernel_rfl) (by kernel_rfl) (by kernel_rfl) ?_
                  cbv
                  repeat' first
                    | (simp only [u2, u3, u5, u6]; cbv)
                    | (refine And.intro ?_ ?_)
                  rotate_right 1
                  · have hq3 : PlI (i + 1) ps [] [] [] := hPl.mono (by omega)
                    have w1 : GFsK.right ms = true := by subst hFsK; rw [hms]; exact hPl.ok.right
                    have hlm : ms.length = 0 := by rw [hms, pairsX_length, ← hPl.len]; rfl
                    have w2 : A.cmp .neq (A.len ms) 0 = false := by
                      subst hA
                      show (!decide ((ms.length : Int) = 0)) = false
                      rw [hlm]
                      rfl
                    have w3 : A.not true = false := by subst hA; rfl
                    have w4 : A.cond false true false = false := by subst hA; rfl
                    have ei : IntKind.wrap .i64 (i + 1) = i + 1 := wrap_i64 (by unfold r64; omega)
                    cbv at w1
                    cbv at w2
                    cbv at w3
                    cbv at w4
                    ((with_reducible refine goL (c := .region 51 _ _) (T := fun _ => tabY [33, 58, 59, 113, 116, 117, 119, 192, 193, 201, 202, 219, 220, 5004] []) (H := fun _ => [kn_put GFsH, kn_del GFsDl, kn_get GFsG, kn_range GFsR, kn_right GFsK, kn_has GFsS, kn_runs GFsU]) (tabY_ok _ _) hH follows_mixed hA hX ?_) <;> cbv)
                    repeat' first
                      | (simp only [w1, w2, w3, w4]; cbv)
                      | (refine And.intro ?_ ?_)
                    all_goals first
                      | (subst hA; exact rfl)
                      | (subst hA; show Region.lexB _ _ = true; kernel_rfl)
                      | (subst hA; show turnsB _ = true; kernel_rfl)
                      | (subst hA; intro q; exact q)
                      | (subst hA; intro _; exact trivial)
                      | (subst hA; intro _; exact rfl)
                      | (subst hFsH; rw [hms]; exact hPl.ok.isP)
                      | (subst hFsDl; rw [hms]; exact hPl.ok.isP)
                      | (subst hFsG; rw [hms]; exact hPl.ok.isP)
                      | (subst hFsR; rw [hms]; exact hPl.ok.isP)
                      | (subst hFsK; rw [hms]; exact hPl.ok.isP)
                      | (subst hFsK; rw [hms2]; exact hq2.ok.isP)
                      | (subst hA; exact hfacts.1)
                      | (subst hA; exact hfacts.2.1)
                      | (subst hA; exact hfacts.2.2)
                      | (subst hA; simp only [A0]; omega)
                      | (subst hA; simp only [A0, List.length_cons, List.length_nil]; omega)
                      | (subst hA; intro q; simpa [A0] using q)
                      | (subst hA; intro q; simp [A0] at q; done)
                      | (subst hA
                         rw [hR]
                         refine ⟨.inl (i + 1, ms), ⟨⟨by show 0 ≤ i + 1; omega, by show i + 1 ≤ m; omega⟩, ps, hms, hq3⟩, (by show (m - (i + 1)).toNat < (m - i).toNat; omega), told_keep [] rfl rfl ?_⟩
                         refine ⟨.inl rfl, .inl rfl, .inl rfl, .inl rfl, .inl rfl, .inl ?_, trivial⟩
                         show DV.d (.sc (.int .i64 (i + 1))) = .d (.sc (.int .i64 (IntKind.wrap .i64 (i + 1))))
                         rw [ei])
                      | fail
                  all_goals fail
                all_goals first
                  | (subst hA; exact rfl)
                  | (subst hA; show Region.lexB _ _ = true; kernel_rfl)
                  | (subst hA; show turnsB _ = true; kernel_rfl)
                  | (subst hA; intro q; exact q)
                  | (subst hA; intro _; exact trivial)
                  | (subst hA; intro _; exact rfl)
                  | (subst hA; intro q; simpa [A0] using q)
                  | (subst hFsG; rw [hms]; exact hPl.ok.isP)
                  | (subst hA; simp only [A0, List.length_cons, List.length_nil]; omega)
                  | fail
              · have z3 : A.cmp .eql ak 3 = false := by subst hA; exact decide_eq_false e3
                cbv at z3
                by_cases e4 : ak = 4
                · subst e4
                  have z4 : A.cmp .eql 4 4 = true := by subst hA; rfl
                  cbv at z4
                  obtain ⟨sp, hsp⟩ : ∃ sp : Span, sp = ⟨alo, ahi⟩ := ⟨_, rfl⟩
                  have hRg := hPl.range sp
                  obtain ⟨⟨rr, rm⟩, hrr⟩ : ∃ q, rangeX (pairsX ps) sp = q := ⟨_, rfl⟩
                  rw [hrr] at hRg
                  replace hRg : rr.length = 0 ∧ rm = false := hRg
                  have l2 : GFsR.range ms ⟨alo, ahi⟩ = (rr, rm) := by subst hFsR; rw [hms, ← hsp]; exact hrr
                  have l4 : A.cmp .neq (A.len rr) (A.mm false 0 8) = false := by
                    subst hA
                    show (!decide ((rr.length : Int) = min 0 8)) = false
                    rw [hRg.1]
                    rfl
                  have l5 : A.not (A.beq rm (A.cmp .gtr 0 8)) = false := by
                    subst hA
                    rw [hRg.2]
                    rfl
                  cbv at l2
                  cbv at l4
                  cbv at l5
                  ((with_reducible refine goL (c := .region 15 _ _) (T := fun _ => tabY [33, 58, 59, 113, 116, 117, 119, 192, 193, 201, 202, 219, 220, 5004] []) (H := fun _ => [kn_put GFsH, kn_del GFsDl, kn_get GFsG, kn_range GFsR, kn_right GFsK, kn_has GFsS, kn_runs GFsU]) (tabY_ok _ _) hH follows_mixed hA hX ?_) <;> cbv)
                  repeat (simp only [z1, z2, z3, z4]; cbv)
                  refine unrollL (T := fun _ => tabY [33, 58, 59, 113, 116, 117, 119, 192, 193, 201, 202, 219, 220, 5004] [15, 17, 25, 26, 27, 29, 34, 35, 36, 38, 39, 48, 51]) (H := fun _ => [kn_put GFsH, kn_del GFsDl, kn_get GFsG, kn_range GFsR, kn_right GFsK, kn_has GFsS, kn_runs GFsU]) (tabY_ok _ _) hH follows_mixed hA hX 1 fun R3 hR3 => ?_
                  cbv
                  refine hR3 _ _ _ ?_
                  cbv
                  simp only [l0]
                  cbv
                  repeat' first
                    | (simp only [l2, l4, l5, u5]; cbv)
                    | (refine And.intro ?_ ?_)
                    | ((with_reducible refine goL (c := .region 48 _ _) (T := fun _ => tabY [33, 58, 59, 113, 116, 117, 119, 192, 193, 201, 202, 219, 220, 5004] []) (H := fun _ => [kn_put GFsH, kn_del GFsDl, kn_get GFsG, kn_range GFsR, kn_right GFsK, kn_has GFsS, kn_runs GFsU]) (tabY_ok _ _) hH follows_mixed hA hX ?_) <;> cbv)
                  rotate_right 1
                  · have hq3 : PlI (i + 1) ps [] [] [] := hPl.mono (by omega)
                    have w1 : GFsK.right ms = true := by subst hFsK; rw [hms]; exact hPl.ok.right
                    have hlm : ms.length = 0 := by rw [hms, pairsX_length, ← hPl.len]; rfl
                    have w2 : A.cmp .neq (A.len ms) 0 = false := by
                      subst hA
                      show (!decide ((ms.length : Int) = 0)) = false
                      rw [hlm]
                      rfl
                    have w3 : A.not true = false := by subst hA; rfl
                    have w4 : A.cond false true false = false := by subst hA; rfl
                    have ei : IntKind.wrap .i64 (i + 1) = i + 1 := wrap_i64 (by unfold r64; omega)
                    cbv at w1
                    cbv at w2
                    cbv at w3
                    cbv at w4
                    ((with_reducible refine goL (c := .region 51 _ _) (T := fun _ => tabY [33, 58, 59, 113, 116, 117, 119, 192, 193, 201, 202, 219, 220, 5004] []) (H := fun _ => [kn_put GFsH, kn_del GFsDl, kn_get GFsG, kn_range GFsR, kn_right GFsK, kn_has GFsS, kn_runs GFsU]) (tabY_ok _ _) hH follows_mixed hA hX ?_) <;> cbv)
                    repeat' first
                      | (simp only [w1, w2, w3, w4]; cbv)
                      | (refine And.intro ?_ ?_)
                    all_goals first
                      | (subst hA; exact rfl)
                      | (subst hA; show Region.lexB _ _ = true; kernel_rfl)
                      | (subst hA; show turnsB _ = true; kernel_rfl)
                      | (subst hA; intro q; exact q)
                      | (subst hA; intro _; exact trivial)
                      | (subst hA; intro _; exact rfl)
                      | (subst hFsH; rw [hms]; exact hPl.ok.isP)
                      | (subst hFsDl; rw [hms]; exact hPl.ok.isP)
                      | (subst hFsG; rw [hms]; exact hPl.ok.isP)
                      | (subst hFsR; rw [hms]; exact hPl.ok.isP)
                      | (subst hFsK; rw [hms]; exact hPl.ok.isP)
                      | (subst hFsK; rw [hms2]; exact hq2.ok.isP)
                      | (subst hA; exact hfacts.1)
                      | (subst hA; exact hfacts.2.1)
                      | (subst hA; exact hfacts.2.2)
                      | (subst hA; simp only [A0]; omega)
                      | (subst hA; simp only [A0, List.length_cons, List.length_nil]; omega)
                      | (subst hA; intro q; simpa [A0] using q)
                      | (subst hA; intro q; simp [A0] at q; done)
                      | (subst hA
                         rw [hR]
                         refine ⟨.inl (i + 1, ms), ⟨⟨by show 0 ≤ i + 1; omega, by show i + 1 ≤ m; omega⟩, ps, hms, hq3⟩, (by show (m - (i + 1)).toNat < (m - i).toNat; omega), told_keep [] rfl rfl ?_⟩
                         refine ⟨.inl rfl, .inl rfl, .inl rfl, .inl rfl, .inl rfl, .inl ?_, trivial⟩
                         show DV.d (.sc (.int .i64 (i + 1))) = .d (.sc (.int .i64 (IntKind.wrap .i64 (i + 1))))
                         rw [ei])
                      | fail
                  all_goals first
                    | (subst hA; exact rfl)
                    | (subst hA; show Region.lexB _ _ = true; kernel_rfl)
                    | (subst hA; show turnsB _ = true; kernel_rfl)
                    | (subst hA; intro q; exact q)
                    | (subst hA; intro _; exact trivial)
                    | (subst hA; intro _; exact rfl)
                    | (subst hFsH; rw [hms]; exact hPl.ok.isP)
                    | (subst hFsDl; rw [hms]; exact hPl.ok.isP)
                    | (subst hFsG; rw [hms]; exact hPl.ok.isP)
                    | (subst hFsR; rw [hms]; exact hPl.ok.isP)
                    | (subst hFsK; rw [hms]; exact hPl.ok.isP)
                    | (subst hFsK; rw [hms2]; exact hq2.ok.isP)
                    | (subst hA; exact hfacts.1)
                    | (subst hA; exact hfacts.2.1)
                    | (subst hA; exact hfacts.2.2)
                    | (subst hA; simp only [A0]; omega)
                    | (subst hA; simp only [A0, List.length_cons, List.length_nil]; omega)
                    | (subst hA; intro q; simpa [A0] using q)
                    | (subst hA; intro q; simp [A0] at q; done)
                    | fail
                · have z4 : A.cmp .eql ak 4 = false := by subst hA; exact decide_eq_false e4
                  cbv at z4
                  ((with_reducible refine goL (c := .region 15 _ _) (T := fun _ => tabY [33, 58, 59, 113, 116, 117, 119, 192, 193, 201, 202, 219, 220, 5004] []) (H := fun _ => [kn_put GFsH, kn_del GFsDl, kn_get GFsG, kn_range GFsR, kn_right GFsK, kn_has GFsS, kn_runs GFsU]) (tabY_ok _ _) hH follows_mixed hA hX ?_) <;> cbv)
                  repeat (simp only [z1, z2, z3, z4]; cbv)
                  have hq3 : PlI (i + 1) ps [] [] [] := hPl.mono (by omega)
                  have w1 : GFsK.right ms = true := by subst hFsK; rw [hms]; exact hPl.ok.right
                  have hlm : ms.length = 0 := by rw [hms, pairsX_length, ← hPl.len]; rfl
                  have w2 : A.cmp .neq (A.len ms) 0 = false := by
                    subst hA
                    show (!decide ((ms.length : Int) = 0)) = false
                    rw [hlm]
                    rfl
                  have w3 : A.not true = false := by subst hA; rfl
                  have w4 : A.cond false true false = false := by subst hA; rfl
                  have ei : IntKind.wrap .i64 (i + 1) = i + 1 := wrap_i64 (by unfold r64; omega)
                  cbv at w1
                  cbv at w2
                  cbv at w3
                  cbv at w4
                  ((with_reducible refine goL (c := .region 51 _ _) (T := fun _ => tabY [33, 58, 59, 113, 116, 117, 119, 192, 193, 201, 202, 219, 220, 5004] []) (H := fun _ => [kn_put GFsH, kn_del GFsDl, kn_get GFsG, kn_range GFsR, kn_right GFsK, kn_has GFsS, kn_runs GFsU]) (tabY_ok _ _) hH follows_mixed hA hX ?_) <;> cbv)
                  repeat' first
                    | (simp only [w1, w2, w3, w4]; cbv)
                    | (refine And.intro ?_ ?_)
                  all_goals first
                    | (subst hA; exact rfl)
                    | (subst hA; show Region.lexB _ _ = true; kernel_rfl)
                    | (subst hA; show turnsB _ = true; kernel_rfl)
                    | (subst hA; intro q; exact q)
                    | (subst hA; intro _; exact trivial)
                    | (subst hA; intro _; exact rfl)
                    | (subst hFsH; rw [hms]; exact hPl.ok.isP)
                    | (subst hFsDl; rw [hms]; exact hPl.ok.isP)
                    | (subst hFsG; rw [hms]; exact hPl.ok.isP)
                    | (subst hFsR; rw [hms]; exact hPl.ok.isP)
                    | (subst hFsK; rw [hms]; exact hPl.ok.isP)
                    | (subst hFsK; rw [hms2]; exact hq2.ok.isP)
                    | (subst hA; exact hfacts.1)
                    | (subst hA; exact hfacts.2.1)
                    | (subst hA; exact hfacts.2.2)
                    | (subst hA; simp only [A0]; omega)
                    | (subst hA; simp only [A0, List.length_cons, List.length_nil]; omega)
                    | (subst hA; intro q; simpa [A0] using q)
                    | (subst hA; intro q; simp [A0] at q; done)
                    | (subst hA
                       rw [hR]
                       refine ⟨.inl (i + 1, ms), ⟨⟨by show 0 ≤ i + 1; omega, by show i + 1 ≤ m; omega⟩, ps, hms, hq3⟩, (by show (m - (i + 1)).toNat < (m - i).toNat; omega), told_keep [] rfl rfl ?_⟩
                       refine ⟨.inl rfl, .inl rfl, .inl rfl, .inl rfl, .inl rfl, .inl ?_, trivial⟩
                       show DV.d (.sc (.int .i64 (i + 1))) = .d (.sc (.int .i64 (IntKind.wrap .i64 (i + 1))))
                       rw [ei])
                    | fail
        · simp only [fB]
          cbv
          repeat' (refine And.intro ?_ ?_)
          all_goals have hq3 : PlI (i + 1) ps [] [] [] := hPl.mono (by omega)
          all_goals have ei : IntKind.wrap .i64 (i + 1) = i + 1 := wrap_i64 (by unfold r64; omega)
          all_goals have hfacts : True ∧ True ∧ True := ⟨trivial, trivial, trivial⟩
          all_goals first
            | (subst hA; exact rfl)
            | (subst hA; show Region.lexB _ _ = true; kernel_rfl)
            | (subst hA; show turnsB _ = true; kernel_rfl)
            | (subst hA; intro q; exact q)
            | (subst hA; intro _; exact trivial)
            | (subst hA; intro _; exact rfl)
            | (subst hFsH; rw [hms]; exact hPl.ok.isP)
            | (subst hFsDl; rw [hms]; exact hPl.ok.isP)
            | (subst hFsG; rw [hms]; exact hPl.ok.isP)
            | (subst hFsR; rw [hms]; exact hPl.ok.isP)
            | (subst hFsK; rw [hms]; exact hPl.ok.isP)
            | (subst hFsK; rw [hms2]; exact hq2.ok.isP)
            | (subst hA; exact hfacts.1)
            | (subst hA; exact hfacts.2.1)
            | (subst hA; exact hfacts.2.2)
            | (subst hA; simp only [A0]; omega)
            | (subst hA; simp only [A0, List.length_cons, List.length_nil]; omega)
            | (subst hA; intro q; simpa [A0] using q)
            | (subst hA; intro q; simp [A0] at q; done)
            | (subst hA
               rw [hR]
               refine ⟨.inl (i + 1, ms), ⟨⟨by show 0 ≤ i + 1; omega, by show i + 1 ≤ m; omega⟩, ps, hms, hq3⟩, (by show (m - (i + 1)).toNat < (m - i).toNat; omega), told_keep [] rfl rfl ?_⟩
               refine ⟨.inl rfl, .inl rfl, .inl rfl, .inl rfl, .inl rfl, .inl ?_, trivial⟩
               show DV.d (.sc (.int .i64 (i + 1))) = .d (.sc (.int .i64 (IntKind.wrap .i64 (i + 1))))
               rw [ei])
            | fail
      all_goals have hfacts : True ∧ True ∧ True := ⟨trivial, trivial, trivial⟩
      all_goals first
        | (subst hA; exact rfl)
        | (subst hA; show Region.lexB _ _ = true; kernel_rfl)
        | (subst hA; show turnsB _ = true; kernel_rfl)
        | (subst hA; intro q; exact q)
        | (subst hA; intro _; exact trivial)
        | (subst hA; intro q; simpa [A0] using q)
        | (subst hA; intro _; exact rfl)
        | (subst hFsH; rw [hms]; exact hPl.ok.isP)
        | (subst hFsDl; rw [hms]; exact hPl.ok.isP)
        | (subst hFsG; rw [hms]; exact hPl.ok.isP)
        | (subst hFsR; rw [hms]; exact hPl.ok.isP)
        | (subst hFsK; rw [hms]; exact hPl.ok.isP)
        | (subst hFsK; rw [hms2]; exact hq2.ok.isP)
        | (subst hA; exact hfacts.1)
        | (subst hA; exact hfacts.2.1)
        | (subst hA; exact hfacts.2.2)
        | (subst hA; simp only [A0]; omega)
        | (subst hA; simp only [A0, List.length_cons, List.length_nil]; omega)
        | exact rh
        | (subst hA; exact ⟨h1, by show i < (xs.length : Int); omega⟩)
        | fail
    · have f3 : A.cond (A.cmp .lss i n) (A.cmp .lss i 60) false = false := by
        subst hA
        show (bif decide (i < n) then decide (i < 60) else false) = false
        by_cases g : i < n
        · rw [decide_eq_true g, decide_eq_false (by omega)]
          rfl
        · rw [decide_eq_false g]
          rfl
      cbv at f3
      repeat' first
        | (simp only [f3]; cbv)
        | (refine And.intro ?_ ?_)
      all_goals first
        | (subst hA; exact rfl)
        | (subst hA; show Region.lexB _ _ = true; kernel_rfl)
        | (subst hA; show turnsB _ = true; kernel_rfl)
        | (subst hA; intro q; exact q)
        | (subst hA; intro _; exact trivial)
        | (subst hA; intro _; exact rfl)
        | (subst hA; intro q; simpa [A0] using q)
        | (subst hA hW hFsU; exact ret_v rfl rfl)
        | exact trivial
        | fail
  · obtain ⟨⟨h1, h2⟩, ps, K, V, T, hms, hPl, hcK, hcV, hcT, hN⟩ : (0 ≤ i ∧ i ≤ m) ∧ ∃ ps K V T, ms = pairsX ps ∧ PlI i ps K V T ∧ cK = strR K ∧ cV = strR V ∧ cT = intR T ∧ N = K.length := hinv
    have hN32 : N ≤ 32 := by have a1 := hPl.ok.2.1; have a2 := hPl.len; omega
    cbv
    simp only [y2]
    by_cases hi : i < m
    · have f1 : A.cmp .lss i n = true := by subst hA; exact decide_eq_true (by omega)
      have f2 : A.cmp .lss i 60 = true := by subst hA; exact decide_eq_true (by omega)
      have f3 : A.cond true true false = true := by subst hA; rfl
      have hlt : i.toNat < as_.length := by omega
      obtain ⟨a, ha⟩ : ∃ a, a = as_[i.toNat]'hlt := ⟨_, rfl⟩
      have hrow : xs.getD i.toNat [] = a.row := by rw [hxs, ask_row h1 (by omega), ha]
      obtain ⟨ak, akey, aval, alo, ahi⟩ := a
      have r0 : A.gi (A.lift (A.row xs i)) 0 = ak := by subst hA; simp only [A0, hrow, AskK.row, List.map_cons, List.getElem?_cons_zero, List.getElem?_cons_succ, Nat.zero_add]
      have r1 : A.gs (A.lift (A.row xs i)) (A.pl 0 1) = akey := by subst hA; simp only [A0, hrow, AskK.row, List.map_cons, List.getElem?_cons_zero, List.getElem?_cons_succ, Nat.zero_add]
      have r2 : A.gs (A.lift (A.row xs i)) (A.pl 0 2) = aval := by subst hA; simp only [A0, hrow, AskK.row, List.map_cons, List.getElem?_cons_zero, List.getElem?_cons_succ, Nat.zero_add]
      have r3 : A.gs (A.lift (A.row xs i)) (A.pl 0 3) = alo := by subst hA; simp only [A0, hrow, AskK.row, List.map_cons, List.getElem?_cons_zero, List.getElem?_cons_succ, Nat.zero_add]
      have r4 : A.gs (A.lift (A.row xs i)) (A.pl 0 4) = ahi := by subst hA; simp only [A0, hrow, AskK.row, List.map_cons, List.getElem?_cons_zero, List.getElem?_cons_succ, Nat.zero_add]
      have rh : A.has (A.lift (A.row xs i)) 0 5 [.d (.sc (.int .i64 ak)), .d (.sc (.string akey)), .d (.sc (.string aval)), .d (.sc (.string alo)), .d (.sc (.string ahi))] := by
        subst hA
        simp only [A0, hrow, AskK.row]
        exact ⟨rfl, by simp, rfl⟩
      cbv at f1
      cbv at f2
      cbv at f3
      cbv at r0
      cbv at r1
      cbv at r2
      cbv at r3
      cbv at r4
      cbv at rh
      repeat' first
        | (simp only [f1, f2, f3, r0, r1, r2, r3, r4]; cbv)
        | (refine And.intro ?_ ?_)
      rotate_right 1
      · obtain ⟨bb, hbb⟩ : ∃ bb, bb = A.cond (A.cond (A.scmp .eql akey ⟨#[]⟩) true (A.cmp .gtr (A.size akey) 16)) true (A.cmp .gtr (A.size aval) 64) := ⟨_, rfl⟩
        have hgood : bb = false → ltb none8 akey = true ∧ akey.size ≤ 16 ∧ aval.size ≤ 64 := by
          rw [hbb]
          subst hA
          show (bif (bif decide (akey = none8) then true else decide ((16 : Int) < (akey.size : Int))) then true else decide ((64 : Int) < (aval.size : Int))) = false → _
          intro h
          by_cases g1 : akey = none8
          · rw [decide_eq_true g1] at h
            exact absurd h (by simp)
          · rw [decide_eq_false g1] at h
            by_cases g2 : (16 : Int) < (akey.size : Int)
            · rw [decide_eq_true g2] at h
              exact absurd h (by simp)
            · rw [decide_eq_false g2] at h
              by_cases g3 : (64 : Int) < (aval.size : Int)
              · rw [decide_eq_true g3] at h
                exact absurd h (by simp)
              · exact ⟨ltb_not (ltb_empty akey) g1, by omega, by omega⟩
        have fB := hbb.symm
        cbv at fB
        cases bb
        · obtain ⟨gk1, gk2, gk3⟩ := hgood rfl
          simp only [fB]
          cbv
          obtain ⟨ABOX, hABOX⟩ : ∃ b : List DV, b = [.d (.sc (.int .i64 ak)), .d (.sc (.string akey)), .d (.sc (.string aval)), .d (.sc (.string alo)), .d (.sc (.string ahi))] := ⟨_, rfl⟩
          refine loopL (T := fun _ => tabY [33, 58, 59, 113, 116, 117, 119, 192, 193, 201, 202, 219, 220, 5004] [15, 17, 25, 26, 27, 29, 34, 35, 36, 38, 39, 48, 51]) (H := fun _ => [kn_put GFsH, kn_del GFsDl, kn_get GFsG, kn_range GFsR, kn_right GFsK, kn_has GFsS, kn_runs GFsU]) (tabY_ok _ _) hH follows_mixed hA hX
            (fun y : Int × Int => (0 ≤ y.1 ∧ y.1.toNat ≤ N) ∧ y.2 = atJ K akey y.1.toNat)
            (fun y => [(0, .d (.slc 5 xs)), (3, .d (.slc 3 ms)), (4, .view 1 0 vk 0 N), (5, .view 1 1 vv 0 N), (6, .view 1 2 vt 0 N), (7, .d (.sc (.int .i64 i))), (8, .ref 3 0 0), (9, .d (.sc (.int .i64 y.2))), (10, .d (.sc (.int .i64 y.1)))])
            (fun y => [⟨9, cK, true, vk, true⟩, ⟨9, cV, true, vv, true⟩, ⟨3, cT, true, vt, true⟩, ⟨42, [.d (.sc (.int .i64 ak)), .d (.sc (.string akey)), .d (.sc (.string aval)), .d (.sc (.string alo)), .d (.sc (.string ahi))], false, 0, true⟩]) (fun y => N - y.1.toNat) (0, -1) ?_ ?_ ?_
          · exact ⟨⟨Int.le_refl 0, Nat.zero_le N⟩, rfl⟩
          · exact told_less ⟨.inl rfl, .inl rfl, .inl rfl, .inl rfl, .inl rfl, .inl rfl, .inl rfl, .inl rfl, .inl rfl, trivial⟩
          rintro R2 ⟨k, AT⟩ hR2 ⟨hk, hAT⟩
          replace hk : 0 ≤ k ∧ k.toNat ≤ N := hk
          replace hAT : AT = atJ K akey k.toNat := hAT
          cbv
          by_cases hkN : k.toNat < N
          · have l1 : A.cmp .lss k (A.int N) = true := by subst hA; exact decide_eq_true (by show k < (N : Int); omega)
            have hkK : k < (K.length : Int) := by omega
            have hkt : k.toNat < K.length := by omega
            obtain ⟨kk, hkk⟩ : ∃ kk, kk = K[k.toNat]'hkt := ⟨_, rfl⟩
            have hce := strR_at (K := K) hk.1 hkK
            rw [← hkk, ← hcK] at hce
            have l2 : A.gs cK (A.off 0 k 1) = kk := by subst hA; show (match cK[0 + k.toNat * 1]? with | some (.d (.sc (.string s))) => s | _ => .empty) = kk; rw [Nat.zero_add, Nat.mul_one, hce]
            have hcl : cK.length = N := by rw [hcK, strR_len, hN]
            have l3 : A.has cK (A.off 0 k 1) 1 [.d (.sc (.string kk))] := by
              subst hA
              simp only [A0, Nat.zero_add, Nat.mul_one]
              refine ⟨rfl, by omega, ?_⟩
              rw [List.drop_eq_getElem_cons (by omega), List.take_succ_cons, List.take_zero]
              rw [List.getElem?_eq_getElem (by omega)] at hce
              rw [Option.some.inj hce]
            cbv at l1
            cbv at l2
            cbv at l3
            repeat' first
              | (simp only [l1, l2]; cbv)
              | (refine And.intro ?_ ?_)
              | (refine part (fun h => ?_) (fun h => ?_) <;> try cbv)
            all_goals subst hA
            all_goals have ek : IntKind.wrap .i64 (k + 1) = k + 1 := wrap_i64 (by unfold r64; omega)
            all_goals have hKk : K[k.toNat]? = some kk := by rw [List.getElem?_eq_getElem hkt, hkk]
            all_goals first
              | exact rfl
              | exact l3
              | (show 0 ≤ k ∧ k < (N : Int); omega)
              | (show Region.lexB _ _ = true; kernel_rfl)
              | (show turnsB _ = true; kernel_rfl)
              | (have he : kk = akey := of_decide_eq_true h
                 rw [hR2]
                 refine ⟨(k + 1, k), ⟨⟨by show 0 ≤ k + 1; omega, by show (k + 1).toNat ≤ N; omega⟩, ?_⟩, (by show N - (k + 1).toNat < N - k.toNat; omega), told_less ⟨.inl rfl, .inl rfl, .inl rfl, .inl rfl, .inl rfl, .inl rfl, .inl rfl, .inl rfl, .inl ?_, trivial⟩⟩
                 · show k = atJ K akey (k + 1).toNat
                   rw [show (k + 1).toNat = k.toNat + 1 by omega, atJ, if_pos (by rw [hKk, he])]
                   omega
                 · show DV.d (.sc (.int .i64 (k + 1))) = .d (.sc (.int .i64 (IntKind.wrap .i64 (k + 1))))
                   rw [ek])
              | (have he : ¬ kk = akey := of_decide_eq_false h
                 rw [hR2]
                 refine ⟨(k + 1, AT), ⟨⟨by show 0 ≤ k + 1; omega, by show (k + 1).toNat ≤ N; omega⟩, ?_⟩, (by show N - (k + 1).toNat < N - k.toNat; omega), told_less ⟨.inl rfl, .inl rfl, .inl rfl, .inl rfl, .inl rfl, .inl rfl, .inl rfl, .inl rfl, .inl ?_, trivial⟩⟩
                 · show AT = atJ K akey (k + 1).toNat
                   rw [show (k + 1).toNat = k.toNat + 1 by omega, atJ, if_neg (by rw [hKk]; exact fun q => he (Option.some.inj q))]
                   exact hAT
                 · show DV.d (.sc (.int .i64 (k + 1))) = .d (.sc (.int .i64 (IntKind.wrap .i64 (k + 1))))
                   rw [ek])
              | fail
          · have l1 : A.cmp .lss k (A.int N) = false := by subst hA; exact decide_eq_false (by show ¬ k < (N : Int); omega)
            cbv at l1
            simp only [l1]
            cbv
            repeat' (refine And.intro ?_ ?_)
            rotate_right 1
            · have hkE : k.toNat = K.length := by omega
              rw [hkE] at hAT
              have hAll := atJ_all K akey
              rw [← hAT] at hAll
              have hAll2 : (AT = -1 ∧ akey ∉ K) ∨ (0 ≤ AT ∧ AT.toNat < K.length ∧ K[AT.toNat]? = some akey) := by
                rcases hAll with h | ⟨j, h1, h2, h3⟩
                · exact .inl h
                · exact .inr ⟨by omega, by omega, by rw [show AT.toNat = j by omega]; exact h3⟩
              refine pauseL hX (s' := [(0, .d (.slc 5 xs)), (3, .d (.slc 3 ms)), (4, .view 1 0 vk 0 N), (5, .view 1 1 vv 0 N), (6, .view 1 2 vt 0 N), (7, .d (.sc (.int .i64 i))), (8, .ref 3 0 0), (9, .d (.sc (.int .i64 AT)))]) (told_less ⟨.inl rfl, .inl rfl, .inl rfl, .inl rfl, .inl rfl, .inl rfl, .inl rfl, .inl rfl, trivial⟩) ?_
              by_cases e1 : ak = 1
              · subst e1
                have z1 : A.cmp .eql 1 1 = true := by subst hA; rfl
                have z2 : A.cmp .neq 0 0 = false := by subst hA; rfl
                have z3 : A.not true = false := by subst hA; rfl
                have z4 : A.cond false true false = false := by subst hA; rfl
                have z7 : A.cmp .neq 7 7 = false := by subst hA; rfl
                have z8 : A.cond true true false = true := by subst hA; rfl
                have z9 : A.cond true false false = false := by subst hA; rfl
                cbv at z1
                cbv at z2
                cbv at z3
                cbv at z4
                cbv at z7
                cbv at z8
                cbv at z9
                (with_reducible refine goL (c := .region 15 _ _) (T := fun _ => tabY [33, 58, 59, 113, 116, 117, 119, 192, 193, 201, 202, 219, 220, 5004] []) (H := fun _ => [kn_put GFsH, kn_del GFsDl, kn_get GFsG, kn_range GFsR, kn_right GFsK, kn_has GFsS, kn_runs GFsU]) (tabY_ok _ _) hH follows_mixed hA hX ?_) <;> cbv
                simp only [z1]
                cbv
                rcases hAll2 with ⟨hA1, hA2⟩ | ⟨hj1, hj2, hj3⟩
                · have u1 : A.cmp .lss AT 0 = true := by subst hA; exact decide_eq_true (by omega)
                  cbv at u1
                  by_cases hfull : 32 ≤ K.length
                  · have hp := hPl.full (value := aval) hA2 hfull
                    have p1 : GFsH.put ms akey aval = ([], 7) := by subst hFsH; rw [hms]; exact hp
                    have u2 : A.cmp .geq (A.int N) 32 = true := by subst hA; exact decide_eq_true (by show (32 : Int) ≤ (N : Int); omega)
                    have u3 : A.cmp .neq (A.len []) 0 = false := by subst hA; rfl
                    cbv at p1
                    cbv at u2
                    cbv at u3
                    (with_reducible refine goL (c := .region 17 _ _) (T := fun _ => tabY [33, 58, 59, 113, 116, 117, 119, 192, 193, 201, 202, 219, 220, 5004] []) (H := fun _ => [kn_put GFsH, kn_del GFsDl, kn_get GFsG, kn_range GFsR, kn_right GFsK, kn_has GFsS, kn_runs GFsU]) (tabY_ok _ _) hH follows_mixed hA hX ?_) <;> cbv
                    repeat' first
                      | (simp only [p1, u1, u2, u3, z2, z4, z7, z8]; cbv)
                      | (refine And.intro ?_ ?_)
                    all_goals have hfacts : True ∧ True ∧ True := ⟨trivial, trivial, trivial⟩
                    all_goals have hq3 : PlI (i + 1) ps K V T := hPl.mono (by omega)
                    all_goals have hpk : ∀ κ, pullL κ cK = cK := fun κ => by rw [hcK]; exact strR_pull _ _
                    all_goals have hpv : ∀ κ, pullL κ cV = cV := fun κ => by rw [hcV]; exact strR_pull _ _
                    all_goals have hpt : ∀ κ, pullL κ cT = cT := fun κ => by rw [hcT]; exact intR_pull _ _
                    all_goals have ei : IntKind.wrap .i64 (i + 1) = i + 1 := wrap_i64 (by unfold r64; omega)
                    all_goals first
                      | (subst hA; exact rfl)
                      | (subst hA; show Region.lexB _ _ = true; kernel_rfl)
                      | (subst hA; show turnsB _ = true; kernel_rfl)
                      | (subst hA; intro q; exact q)
                      | (subst hA; intro _; exact trivial)
                      | (subst hA; intro q; simpa [A0] using q)
                      | (subst hA; intro _; exact rfl)
                      | (subst hFsH; rw [hms]; exact hPl.ok.isP)
                      | (subst hFsDl; rw [hms]; exact hPl.ok.isP)
                      | (subst hFsG; rw [hms]; exact hPl.ok.isP)
                      | (subst hFsR; rw [hms]; exact hPl.ok.isP)
                      | (subst hFsK; rw [hms]; exact hPl.ok.isP)
                      | (subst hFsK; rw [hms2]; exact hq2.ok.isP)
                      | (subst hA; exact hfacts.1)
                      | (subst hA; exact hfacts.2.1)
                      | (subst hA; exact hfacts.2.2)
                      | (subst hA; simp only [A0]; omega)
                      | (subst hA; simp only [A0, List.length_cons, List.length_nil]; omega)
                      | (subst hA
                         rw [hR]
                         refine ⟨.inr ⟨i + 1, 0, ms, cK, cV, cT, vk, vv, vt, N⟩, ⟨⟨by show 0 ≤ i + 1; omega, by show i + 1 ≤ m; omega⟩, ps, K, V, T, hms, hq3, hcK, hcV, hcT, hN⟩, (by show (m - (i + 1)).toNat < (m - i).toNat; omega), told_keep [0, 1, 2] rfl ?_ ?_⟩
                         · show [_, _, _] = [_, _, _]
                           show _ = [(⟨_, pullL [0, 1, 2] cK, _, _, _⟩ : Box), (⟨_, pullL [0, 1, 2] cV, _, _, _⟩ : Box), (⟨_, pullL [0, 1, 2] cT, _, _, _⟩ : Box)]
                           rw [hpk, hpv, hpt]
                           try rfl
                         · refine ⟨.inl rfl, .inl rfl, .inl rfl, .inl rfl, .inl rfl, .inl ?_, trivial⟩
                           show DV.d (.sc (.int .i64 (i + 1))) = .d (.sc (.int .i64 (IntKind.wrap .i64 (i + 1))))
                           rw [ei])
                      | fail
                  · obtain ⟨qs, hq1, hq2⟩ := hPl.putNew (value := aval) hA2 (by omega) gk1 gk2 gk3 h1 (by omega)
                    obtain ⟨ms2, hms2⟩ : ∃ ms2, ms2 = pairsX qs := ⟨_, rfl⟩
                    have p1 : GFsH.put ms akey aval = (ms2, 0) := by subst hFsH; rw [hms, hms2]; exact hq1
                    have u2 : A.cmp .geq (A.int N) 32 = false := by subst hA; exact decide_eq_false (by show ¬ (32 : Int) ≤ (N : Int); omega)
                    cbv at p1
                    cbv at u2
                    (with_reducible refine goL (c := .region 17 _ _) (T := fun _ => tabY [33, 58, 59, 113, 116, 117, 119, 192, 193, 201, 202, 219, 220, 5004] []) (H := fun _ => [kn_put GFsH, kn_del GFsDl, kn_get GFsG, kn_range GFsR, kn_right GFsK, kn_has GFsS, kn_runs GFsU]) (tabY_ok _ _) hH follows_mixed hA hX ?_) <;> cbv
                    repeat' first
                      | (simp only [p1, u1, u2, z2, z4, z8, z9]; cbv)
                      | (refine And.intro ?_ ?_)
                    rotate_right 1
                    · refine regionL [1000001] [] (T := fun _ => tabY [33, 58, 59, 113, 116, 117, 119, 192, 193, 201, 202, 219, 220, 5004] []) (H := fun _ => [kn_put GFsH, kn_del GFsDl, kn_get GFsG, kn_range GFsR, kn_right GFsK, kn_has GFsS, kn_runs GFsU]) (B := fun _ => []) (R := fun _ => []) (A := A) (tabY_ok _ _) hH noB_ok noR_ok follows_mixed hA hX (by kernel_rfl) (by kernel_rfl) (by kernel_rfl) ?_
                      cbv
                      have hfull0 : cK.length = N * 1 ∧ cV.length = N * 1 ∧ cT.length = N * 1 := ⟨by rw [hcK, strR_len, hN]; omega, by rw [hcV, strR_len, hPl.lv, hN]; omega, by rw [hcT, intR_len, hPl.lt, hN]; omega⟩
                      obtain ⟨K2, hK2⟩ : ∃ K2, K2 = K ++ [akey] := ⟨_, rfl⟩
                      obtain ⟨V2, hV2⟩ : ∃ V2, V2 = V ++ [aval] := ⟨_, rfl⟩
                      obtain ⟨T2, hT2⟩ : ∃ T2, T2 = T ++ [1] := ⟨_, rfl⟩
                      rw [← hK2, ← hV2, ← hT2] at hq2
                      obtain ⟨cK2, hcK0⟩ : ∃ c, c = A.app cK (A.rows [[.sc (.string akey)]]) := ⟨_, rfl⟩
                      obtain ⟨cV2, hcV0⟩ : ∃ c, c = A.app cV (A.rows [[.sc (.string aval)]]) := ⟨_, rfl⟩
                      obtain ⟨cT2, hcT0⟩ : ∃ c, c = A.app cT (A.rows [[.sc (.int .i64 1)]]) := ⟨_, rfl⟩
                      have hcK2 : cK2 = strR K2 := by rw [hcK0, hK2, hcK]; subst hA; simp [A0, strR, rowsD]
                      have hcV2 : cV2 = strR V2 := by rw [hcV0, hV2, hcV]; subst hA; simp [A0, strR, rowsD]
                      have hcT2 : cT2 = intR T2 := by rw [hcT0, hT2, hcT]; subst hA; simp [A0, intR, rowsD]
                      obtain ⟨vk2, hvk0⟩ : ∃ v, v = A.nxt vk := ⟨_, rfl⟩
                      obtain ⟨vv2, hvv0⟩ : ∃ v, v = A.nxt vv := ⟨_, rfl⟩
                      obtain ⟨vt2, hvt0⟩ : ∃ v, v = A.nxt vt := ⟨_, rfl⟩
                      obtain ⟨N2, hN0⟩ : ∃ N2, N2 = N + 1 := ⟨_, rfl⟩
                      have hN2 : N2 = K2.length := by rw [hK2, hN0, hN]; simp
                      have n1 : A.pl N (A.lenN [[.sc (.string akey)]]) = N2 := by subst hA; exact hN0.symm
                      have n2 : A.pl N (A.lenN [[.sc (.string aval)]]) = N2 := by subst hA; exact hN0.symm
                      have n3 : A.pl N (A.lenN [[.sc (.int .i64 1)]]) = N2 := by subst hA; exact hN0.symm
                      have n4 := hcK0.symm
                      have n5 := hcV0.symm
                      have n6 := hcT0.symm
                      have n7 := hvk0.symm
                      have n8 := hvv0.symm
                      have n9 := hvt0.symm
                      cbv at n1
                      cbv at n2
                      cbv at n3
                      cbv at n4
                      cbv at n5
                      cbv at n6
                      cbv at n7
                      cbv at n8
                      cbv at n9
                      have hfacts := hfull0
                      repeat' (refine And.intro ?_ ?_)
                      rotate_right 1
                      · simp only [n1, n2, n3, n4, n5, n6, n7, n8, n9]
                        have hq3 : PlI (i + 1) qs K2 V2 T2 := hq2.mono (by omega)
                        have w1 : GFsK.right ms2 = true := by subst hFsK; rw [hms2]; exact hq2.ok.right
                        have hlm : ms2.length = N2 := by rw [hms2, pairsX_length, hN2, hq2.len]
                        have w2 : A.cmp .neq (A.len ms2) (A.int N2) = false := by
                          subst hA
                          show (!decide ((ms2.length : Int) = (N2 : Int))) = false
                          rw [hlm, decide_eq_true rfl]
                          rfl
                        have w3 : A.not true = false := by subst hA; rfl
                        have w4 : A.cond false true false = false := by subst hA; rfl
                        have hpk : ∀ κ, pullL κ cK2 = cK2 := fun κ => by rw [hcK2]; exact strR_pull _ _
                        have hpv : ∀ κ, pullL κ cV2 = cV2 := fun κ => by rw [hcV2]; exact strR_pull _ _
                        have hpt : ∀ κ, pullL κ cT2 = cT2 := fun κ => by rw [hcT2]; exact intR_pull _ _
                        have ei : IntKind.wrap .i64 (i + 1) = i + 1 := wrap_i64 (by unfold r64; omega)
                        cbv at w1
                        cbv at w2
                        cbv at w3
                        cbv at w4
                        ((with_reducible refine goL (c := .region 51 _ _) (T := fun _ => tabY [33, 58, 59, 113, 116, 117, 119, 192, 193, 201, 202, 219, 220, 5004] []) (H := fun _ => [kn_put GFsH, kn_del GFsDl, kn_get GFsG, kn_range GFsR, kn_right GFsK, kn_has GFsS, kn_runs GFsU]) (tabY_ok _ _) hH follows_mixed hA hX ?_) <;> cbv)
                        repeat' first
                          | (simp only [w1, w2, w3, w4]; cbv)
                          | (refine And.intro ?_ ?_)
                        all_goals first
                          | (subst hA; exact rfl)
                          | (subst hA; show Region.lexB _ _ = true; kernel_rfl)
                          | (subst hA; show turnsB _ = true; kernel_rfl)
                          | (subst hA; intro q; exact q)
                          | (subst hA; intro _; exact trivial)
                          | (subst hA; intro q; simpa [A0] using q)
                          | (subst hA; intro _; exact rfl)
                          | (subst hFsH; rw [hms]; exact hPl.ok.isP)
                          | (subst hFsDl; rw [hms]; exact hPl.ok.isP)
                          | (subst hFsG; rw [hms]; exact hPl.ok.isP)
                          | (subst hFsR; rw [hms]; exact hPl.ok.isP)
                          | (subst hFsK; rw [hms]; exact hPl.ok.isP)
                          | (subst hFsK; rw [hms2]; exact hq2.ok.isP)
                          | (subst hA; exact hfacts.1)
                          | (subst hA; exact hfacts.2.1)
                          | (subst hA; exact hfacts.2.2)
                          | (subst hA; simp only [A0]; omega)
                          | (subst hA; simp only [A0, List.length_cons, List.length_nil]; omega)
                          | (subst hA
                             rw [hR]
                             refine ⟨.inr ⟨i + 1, 0, ms2, cK2, cV2, cT2, vk2, vv2, vt2, N2⟩, ⟨⟨by show 0 ≤ i + 1; omega, by show i + 1 ≤ m; omega⟩, qs, K2, V2, T2, hms2, hq3, hcK2, hcV2, hcT2, hN2⟩, (by show (m - (i + 1)).toNat < (m - i).toNat; omega), told_keep [0, 1, 2] rfl ?_ ?_⟩
                             · show [_, _, _] = [_, _, _]
                               show _ = [(⟨_, pullL [0, 1, 2] cK2, _, _, _⟩ : Box), (⟨_, pullL [0, 1, 2] cV2, _, _, _⟩ : Box), (⟨_, pullL [0, 1, 2] cT2, _, _, _⟩ : Box)]
                               rw [hpk, hpv, hpt]
                               try rfl
                             · refine ⟨.inl rfl, .inl rfl, .inl rfl, .inl rfl, .inl rfl, .inl ?_, trivial⟩
                               show DV.d (.sc (.int .i64 (i + 1))) = .d (.sc (.int .i64 (IntKind.wrap .i64 (i + 1))))
                               rw [ei])
                          | fail
                      all_goals first
                        | (subst hA; exact rfl)
                        | (subst hA; show Region.lexB _ _ = true; kernel_rfl)
                        | (subst hA; show turnsB _ = true; kernel_rfl)
                        | (subst hA; intro q; exact q)
                        | (subst hA; intro _; exact trivial)
                        | (subst hA; intro q; simpa [A0] using q)
                        | (subst hA; intro _; exact rfl)
                        | (subst hFsH; rw [hms]; exact hPl.ok.isP)
                        | (subst hFsDl; rw [hms]; exact hPl.ok.isP)
                        | (subst hFsG; rw [hms]; exact hPl.ok.isP)
                        | (subst hFsR; rw [hms]; exact hPl.ok.isP)
                        | (subst hFsK; rw [hms]; exact hPl.ok.isP)
                        | (subst hFsK; rw [hms2]; exact hq2.ok.isP)
                        | (subst hA; exact hfacts.1)
                        | (subst hA; exact hfacts.2.1)
                        | (subst hA; exact hfacts.2.2)
                        | (subst hA; simp only [A0]; omega)
                        | (subst hA; simp only [A0, List.length_cons, List.length_nil]; omega)
                        | fail
                    have hfacts : True ∧ True ∧ True := ⟨trivial, trivial, trivial⟩
                    all_goals first
                      | (subst hA; exact rfl)
                      | (subst hA; show Region.lexB _ _ = true; kernel_rfl)
                      | (subst hA; show turnsB _ = true; kernel_rfl)
                      | (subst hA; intro q; exact q)
                      | (subst hA; intro _; exact trivial)
                      | (subst hA; intro q; simpa [A0] using q)
                      | (subst hA; intro _; exact rfl)
                      | (subst hFsH; rw [hms]; exact hPl.ok.isP)
                      | (subst hFsDl; rw [hms]; exact hPl.ok.isP)
                      | (subst hFsG; rw [hms]; exact hPl.ok.isP)
                      | (subst hFsR; rw [hms]; exact hPl.ok.isP)
                      | (subst hFsK; rw [hms]; exact hPl.ok.isP)
                      | (subst hFsK; rw [hms2]; exact hq2.ok.isP)
                      | (subst hA; exact hfacts.1)
                      | (subst hA; exact hfacts.2.1)
                      | (subst hA; exact hfacts.2.2)
                      | (subst hA; simp only [A0]; omega)
                      | (subst hA; simp only [A0, List.length_cons, List.length_nil]; omega)
                      | fail
                · have u1 : A.cmp .lss AT 0 = false := by subst hA; exact decide_eq_false (by omega)
                  have u2 : A.cond false (A.cmp .geq (A.int N) 32) false = false := by subst hA; rfl
                  cbv at u2
                  cbv at u1
                  obtain ⟨vj, tj, hvj, htj, _, ht1, ht2⟩ := hPl.get hj3
                  obtain ⟨qs, hq1, hq2⟩ := hPl.putOld (value := aval) hj3 htj gk1 gk2 gk3 h1 (by omega)
                  obtain ⟨ms2, hms2⟩ : ∃ ms2, ms2 = pairsX qs := ⟨_, rfl⟩
                  have p1 : GFsH.put ms akey aval = (ms2, 0) := by subst hFsH; rw [hms, hms2]; exact hq1
                  cbv at p1
                  (with_reducible refine goL (c := .region 17 _ _) (T := fun _ => tabY [33, 58, 59, 113, 116, 117, 119, 192, 193, 201, 202, 219, 220, 5004] []) (H := fun _ => [kn_put GFsH, kn_del GFsDl, kn_get GFsG, kn_range GFsR, kn_right GFsK, kn_has GFsS, kn_runs GFsU]) (tabY_ok _ _) hH follows_mixed hA hX ?_) <;> cbv
                  repeat' first
                    | (simp only [p1, u1, u2, z2, z4]; cbv)
                    | (refine And.intro ?_ ?_)
                  rotate_right 1
                  · have hjV : AT.toNat < V.length := by rw [hPl.lv]; exact hj2
                    have hjT : AT.toNat < T.length := by rw [hPl.lt]; exact hj2
                    obtain ⟨V2, hV2⟩ : ∃ V2, V2 = V.set AT.toNat aval := ⟨_, rfl⟩
                    obtain ⟨T2, hT2⟩ : ∃ T2, T2 = T.set AT.toNat (tj + 1) := ⟨_, rfl⟩
                    rw [← hV2, ← hT2] at hq2
                    have htg : (intR T)[AT.toNat]? = some (.d (.sc (.int .i64 tj))) := by unfold intR; rw [List.getElem?_map, htj]; rfl
                    have q1 : A.gi cT (A.off 0 AT 1) = tj := by subst hA; show (match cT[0 + AT.toNat * 1]? with | some (.d (.sc (.int _ x))) => x | _ => 0) = tj; rw [Nat.zero_add, Nat.mul_one, hcT, htg]
                    have q2 : A.bin .add .i64 tj 1 = tj + 1 := by subst hA; exact wrap_i64 (by unfold r64; omega)
                    obtain ⟨t1, ht1e⟩ : ∃ t1, t1 = tj + 1 := ⟨_, rfl⟩
                    rw [← ht1e] at q2
                    obtain ⟨cV2, hcV0⟩ : ∃ c, c = A.spl cV (A.off 0 AT 1) [.d (.sc (.string aval))] := ⟨_, rfl⟩
                    obtain ⟨cT2, hcT0⟩ : ∃ c, c = A.spl cT (A.off 0 AT 1) [.d (.sc (.int .i64 t1))] := ⟨_, rfl⟩
                    obtain ⟨cK2, hcK0⟩ : ∃ c, c = cK := ⟨_, rfl⟩
                    obtain ⟨K2, hK2⟩ : ∃ K2, K2 = K := ⟨_, rfl⟩
                    obtain ⟨N2, hN0⟩ : ∃ N2, N2 = N := ⟨_, rfl⟩
                    obtain ⟨vk2, hvk0⟩ : ∃ v, v = vk := ⟨_, rfl⟩
                    obtain ⟨vv2, hvv0⟩ : ∃ v, v = vv := ⟨_, rfl⟩
                    obtain ⟨vt2, hvt0⟩ : ∃ v, v = vt := ⟨_, rfl⟩
                    have hcK2 : cK2 = strR K2 := by rw [hcK0, hK2, hcK]
                    have hN2 : N2 = K2.length := by rw [hK2, hN0, hN]
                    rw [← hK2] at hq2
                    have hcV2 : cV2 = strR V2 := by
                      rw [hcV0, hV2, hcV]
                      subst hA
                      show splice (strR V) (0 + AT.toNat * 1) _ = _
                      rw [Nat.zero_add, Nat.mul_one]
                      exact strR_set hjV
                    have hcT2 : cT2 = intR T2 := by
                      rw [hcT0, hT2, hcT, ht1e]
                      subst hA
                      show splice (intR T) (0 + AT.toNat * 1) _ = _
                      rw [Nat.zero_add, Nat.mul_one]
                      exact intR_set hjT
                    have n5 := hcV0.symm
                    have n6 := hcT0.symm
                    cbv at q1
                    cbv at q2
                    cbv at n5
                    cbv at n6
                    have hlV : cV.length = N := by rw [hcV, strR_len, hPl.lv, hN]
                    have hlT : cT.length = N := by rw [hcT, intR_len, hPl.lt, hN]
                    have hin : 0 ≤ AT ∧ AT < (N : Int) := ⟨hj1, by omega⟩
                    have hfV : 0 + AT.toNat * 1 + 1 ≤ cV.length := by omega
                    have hfT : 0 + AT.toNat * 1 + 1 ≤ cT.length := by omega
                    have hhas : A.has cT (A.off 0 AT 1) 1 [.d (.sc (.int .i64 tj))] := by
                      subst hA
                      simp only [A0, Nat.zero_add, Nat.mul_one]
                      refine ⟨rfl, by omega, ?_⟩
                      have hl9 : AT.toNat < (intR T).length := by rw [intR_len]; exact hjT
                      rw [hcT, List.drop_eq_getElem_cons hl9, List.take_succ_cons, List.take_zero]
                      rw [List.getElem?_eq_getElem hl9] at htg
                      rw [Option.some.inj htg]
                    cbv at hhas
                    have hfacts : True ∧ True ∧ True := ⟨trivial, trivial, trivial⟩
                    repeat' first
                      | (simp only [q1, q2, n5, n6]; cbv)
                      | (refine And.intro ?_ ?_)
                      | ((with_reducible refine goL (c := .region 26 _ _) (T := fun _ => tabY [33, 58, 59, 113, 116, 117, 119, 192, 193, 201, 202, 219, 220, 5004] []) (H := fun _ => [kn_put GFsH, kn_del GFsDl, kn_get GFsG, kn_range GFsR, kn_right GFsK, kn_has GFsS, kn_runs GFsU]) (tabY_ok _ _) hH follows_mixed hA hX ?_) <;> cbv)
                      | ((with_reducible refine goL (c := .region 27 _ _) (T := fun _ => tabY [33, 58, 59, 113, 116, 117, 119, 192, 193, 201, 202, 219, 220, 5004] []) (H := fun _ => [kn_put GFsH, kn_del GFsDl, kn_get GFsG, kn_range GFsR, kn_right GFsK, kn_has GFsS, kn_runs GFsU]) (tabY_ok _ _) hH follows_mixed hA hX ?_) <;> cbv)
                    rotate_right 1
                    · simp only [← hcK0, ← hN0, ← hvk0, ← hvv0, ← hvt0]
                      have hq3 : PlI (i + 1) qs K2 V2 T2 := hq2.mono (by omega)
                      have w1 : GFsK.right ms2 = true := by subst hFsK; rw [hms2]; exact hq2.ok.right
                      have hlm : ms2.length = N2 := by rw [hms2, pairsX_length, hN2, hq2.len]
                      have w2 : A.cmp .neq (A.len ms2) (A.int N2) = false := by
                        subst hA
                        show (!decide ((ms2.length : Int) = (N2 : Int))) = false
                        rw [hlm, decide_eq_true rfl]
                        rfl
                      have w3 : A.not true = false := by subst hA; rfl
                      have w4 : A.cond false true false = false := by subst hA; rfl
                      have hpk : ∀ κ, pullL κ cK2 = cK2 := fun κ => by rw [hcK2]; exact strR_pull _ _
                      have hpv : ∀ κ, pullL κ cV2 = cV2 := fun κ => by rw [hcV2]; exact strR_pull _ _
                      have hpt : ∀ κ, pullL κ cT2 = cT2 := fun κ => by rw [hcT2]; exact intR_pull _ _
                      have ei : IntKind.wrap .i64 (i + 1) = i + 1 := wrap_i64 (by unfold r64; omega)
                      cbv at w1
                      cbv at w2
                      cbv at w3
                      cbv at w4
                      ((with_reducible refine goL (c := .region 51 _ _) (T := fun _ => tabY [33, 58, 59, 113, 116, 117, 119, 192, 193, 201, 202, 219, 220, 5004] []) (H := fun _ => [kn_put GFsH, kn_del GFsDl, kn_get GFsG, kn_range GFsR, kn_right GFsK, kn_has GFsS, kn_runs GFsU]) (tabY_ok _ _) hH follows_mixed hA hX ?_) <;> cbv)
                      repeat' first
                        | (simp only [w1, w2, w3, w4]; cbv)
                        | (refine And.intro ?_ ?_)
                      all_goals first
                        | (subst hA; exact rfl)
                        | (subst hA; show Region.lexB _ _ = true; kernel_rfl)
                        | (subst hA; show turnsB _ = true; kernel_rfl)
                        | (subst hA; intro q; exact q)
                        | (subst hA; intro _; exact trivial)
                        | (subst hA; intro q; simpa [A0] using q)
                        | (subst hA; intro _; exact rfl)
                        | (subst hFsH; rw [hms]; exact hPl.ok.isP)
                        | (subst hFsDl; rw [hms]; exact hPl.ok.isP)
                        | (subst hFsG; rw [hms]; exact hPl.ok.isP)
                        | (subst hFsR; rw [hms]; exact hPl.ok.isP)
                        | (subst hFsK; rw [hms]; exact hPl.ok.isP)
                        | (subst hFsK; rw [hms2]; exact hq2.ok.isP)
                        | (subst hA; exact hfacts.1)
                        | (subst hA; exact hfacts.2.1)
                        | (subst hA; exact hfacts.2.2)
                        | (subst hA; simp only [A0]; omega)
                        | (subst hA; simp only [A0, List.length_cons, List.length_nil]; omega)
                        | (subst hA
                           rw [hR]
                           refine ⟨.inr ⟨i + 1, 0, ms2, cK2, cV2, cT2, vk2, vv2, vt2, N2⟩, ⟨⟨by show 0 ≤ i + 1; omega, by show i + 1 ≤ m; omega⟩, qs, K2, V2, T2, hms2, hq3, hcK2, hcV2, hcT2, hN2⟩, (by show (m - (i + 1)).toNat < (m - i).toNat; omega), told_keep [0, 1, 2] rfl ?_ ?_⟩
                           · show [_, _, _] = [_, _, _]
                             show _ = [(⟨_, pullL [0, 1, 2] cK2, _, _, _⟩ : Box), (⟨_, pullL [0, 1, 2] cV2, _, _, _⟩ : Box), (⟨_, pullL [0, 1, 2] cT2, _, _, _⟩ : Box)]
                             rw [hpk, hpv, hpt]
                             try rfl
                           · refine ⟨.inl rfl, .inl rfl, .inl rfl, .inl rfl, .inl rfl, .inl ?_, trivial⟩
                             show DV.d (.sc (.int .i64 (i + 1))) = .d (.sc (.int .i64 (IntKind.wrap .i64 (i + 1))))
                             rw [ei])
                        | fail
                    all_goals first
                      | (subst hA; exact rfl)
                      | (subst hA; show Region.lexB _ _ = true; kernel_rfl)
                      | (subst hA; show turnsB _ = true; kernel_rfl)
                      | (subst hA; intro q; exact q)
                      | (subst hA; intro _; exact trivial)
                      | (subst hA; intro q; simpa [A0] using q)
                      | (subst hA; intro _; exact rfl)
                      | (subst hFsH; rw [hms]; exact hPl.ok.isP)
                      | (subst hFsDl; rw [hms]; exact hPl.ok.isP)
                      | (subst hFsG; rw [hms]; exact hPl.ok.isP)
                      | (subst hFsR; rw [hms]; exact hPl.ok.isP)
                      | (subst hFsK; rw [hms]; exact hPl.ok.isP)
                      | (subst hFsK; rw [hms2]; exact hq2.ok.isP)
                      | (subst hA; exact hfacts.1)
                      | (subst hA; exact hfacts.2.1)
                      | (subst hA; exact hfacts.2.2)
                      | (subst hA; simp only [A0]; omega)
                      | (subst hA; simp only [A0, List.length_cons, List.length_nil]; omega)
                      | exact hhas
                      | (subst hA; exact hin)
                      | (subst hA; exact hfV)
                      | (subst hA; exact hfT)
                      | fail
                  have hfacts : True ∧ True ∧ True := ⟨trivial, trivial, trivial⟩
                  all_goals first
                    | (subst hA; exact rfl)
                    | (subst hA; show Region.lexB _ _ = true; kernel_rfl)
                    | (subst hA; show turnsB _ = true; kernel_rfl)
                    | (subst hA; intro q; exact q)
                    | (subst hA; intro _; exact trivial)
                    | (subst hA; intro q; simpa [A0] using q)
                    | (subst hA; intro _; exact rfl)
                    | (subst hFsH; rw [hms]; exact hPl.ok.isP)
                    | (subst hFsDl; rw [hms]; exact hPl.ok.isP)
                    | (subst hFsG; rw [hms]; exact hPl.ok.isP)
                    | (subst hFsR; rw [hms]; exact hPl.ok.isP)
                    | (subst hFsK; rw [hms]; exact hPl.ok.isP)
                    | (subst hFsK; rw [hms2]; exact hq2.ok.isP)
                    | (subst hA; exact hfacts.1)
                    | (subst hA; exact hfacts.2.1)
                    | (subst hA; exact hfacts.2.2)
                    | (subst hA; simp only [A0]; omega)
                    | (subst hA; simp only [A0, List.length_cons, List.length_nil]; omega)
                    | fail
              · have z1 : A.cmp .eql ak 1 = false := by subst hA; exact decide_eq_false e1
                cbv at z1
                by_cases e2 : ak = 2
                · subst e2
                  have z2 : A.cmp .eql 2 2 = true := by subst hA; rfl
                  cbv at z2
                  ((with_reducible refine goL (c := .region 15 _ _) (T := fun _ => tabY [33, 58, 59, 113, 116, 117, 119, 192, 193, 201, 202, 219, 220, 5004] []) (H := fun _ => [kn_put GFsH, kn_del GFsDl, kn_get GFsG, kn_range GFsR, kn_right GFsK, kn_has GFsS, kn_runs GFsU]) (tabY_ok _ _) hH follows_mixed hA hX ?_) <;> cbv)
                  simp only [z1, z2]
                  cbv
                  simp only [z1, z2]
                  cbv
                  rcases hAll2 with ⟨hA1, hA2⟩ | ⟨hj1, hj2, hj3⟩
                  · have p1 : GFsDl.del ms akey = (ms, false) := by subst hFsDl; rw [hms]; exact hPl.delNo hA2
                    have u1 : A.cmp .geq AT 0 = false := by subst hA; exact decide_eq_false (by omega)
                    have u2 : A.not (A.beq false false) = false := by subst hA; rfl
                    cbv at u2
                    cbv at p1
                    cbv at u1
                    ((with_reducible refine goL (c := .region 29 _ _) (T := fun _ => tabY [33, 58, 59, 113, 116, 117, 119, 192, 193, 201, 202, 219, 220, 5004] []) (H := fun _ => [kn_put GFsH, kn_del GFsDl, kn_get GFsG, kn_range GFsR, kn_right GFsK, kn_has GFsS, kn_runs GFsU]) (tabY_ok _ _) hH follows_mixed hA hX ?_) <;> cbv)
                    repeat' first
                      | (simp only [p1, u1, u2]; cbv)
                      | (refine And.intro ?_ ?_)
                    all_goals have hfacts : True ∧ True ∧ True := ⟨trivial, trivial, trivial⟩
                    rotate_right 1
                    · have hq3 : PlI (i + 1) ps K V T := hPl.mono (by omega)
                      have w1 : GFsK.right ms = true := by subst hFsK; rw [hms]; exact hPl.ok.right
                      have hlm : ms.length = N := by rw [hms, pairsX_length, hN, hPl.len]
                      have w2 : A.cmp .neq (A.len ms) (A.int N) = false := by
                        subst hA
                        show (!decide ((ms.length : Int) = (N : Int))) = false
                        rw [hlm, decide_eq_true rfl]
                        rfl
                      have w3 : A.not true = false := by subst hA; rfl
                      have w4 : A.cond false true false = false := by subst hA; rfl
                      have hpk : ∀ κ, pullL κ cK = cK := fun κ => by rw [hcK]; exact strR_pull _ _
                      have hpv : ∀ κ, pullL κ cV = cV := fun κ => by rw [hcV]; exact strR_pull _ _
                      have hpt : ∀ κ, pullL κ cT = cT := fun κ => by rw [hcT]; exact intR_pull _ _
                      have ei : IntKind.wrap .i64 (i + 1) = i + 1 := wrap_i64 (by unfold r64; omega)
                      cbv at w1
                      cbv at w2
                      cbv at w3
                      cbv at w4
                      ((with_reducible refine goL (c := .region 51 _ _) (T := fun _ => tabY [33, 58, 59, 113, 116, 117, 119, 192, 193, 201, 202, 219, 220, 5004] []) (H := fun _ => [kn_put GFsH, kn_del GFsDl, kn_get GFsG, kn_range GFsR, kn_right GFsK, kn_has GFsS, kn_runs GFsU]) (tabY_ok _ _) hH follows_mixed hA hX ?_) <;> cbv)
                      repeat' first
                        | (simp only [w1, w2, w3, w4]; cbv)
                        | (refine And.intro ?_ ?_)
                      all_goals first
                        | (subst hA; exact rfl)
                        | (subst hA; show Region.lexB _ _ = true; kernel_rfl)
                        | (subst hA; show turnsB _ = true; kernel_rfl)
                        | (subst hA; intro q; exact q)
                        | (subst hA; intro _; exact trivial)
                        | (subst hA; intro q; simpa [A0] using q)
                        | (subst hA; intro _; exact rfl)
                        | (subst hFsH; rw [hms]; exact hPl.ok.isP)
                        | (subst hFsDl; rw [hms]; exact hPl.ok.isP)
                        | (subst hFsG; rw [hms]; exact hPl.ok.isP)
                        | (subst hFsR; rw [hms]; exact hPl.ok.isP)
                        | (subst hFsK; rw [hms]; exact hPl.ok.isP)
                        | (subst hFsK; rw [hms]; exact hPl.ok.isP)
                        | (subst hA; exact hfacts.1)
                        | (subst hA; exact hfacts.2.1)
                        | (subst hA; exact hfacts.2.2)
                        | (subst hA; simp only [A0]; omega)
                        | (subst hA; simp only [A0, List.length_cons, List.length_nil]; omega)
                        | (subst hA
                           rw [hR]
                           refine ⟨.inr ⟨i + 1, 0, ms, cK, cV, cT, vk, vv, vt, N⟩, ⟨⟨by show 0 ≤ i + 1; omega, by show i + 1 ≤ m; omega⟩, ps, K, V, T, hms, hq3, hcK, hcV, hcT, hN⟩, (by show (m - (i + 1)).toNat < (m - i).toNat; omega), told_keep [0, 1, 2] rfl ?_ ?_⟩
                           · show [_, _, _] = [_, _, _]
                             show _ = [(⟨_, pullL [0, 1, 2] cK, _, _, _⟩ : Box), (⟨_, pullL [0, 1, 2] cV, _, _, _⟩ : Box), (⟨_, pullL [0, 1, 2] cT, _, _, _⟩ : Box)]
                             rw [hpk, hpv, hpt]
                             try rfl
                           · refine ⟨.inl rfl, .inl rfl, .inl rfl, .inl rfl, .inl rfl, .inl ?_, trivial⟩
                             show DV.d (.sc (.int .i64 (i + 1))) = .d (.sc (.int .i64 (IntKind.wrap .i64 (i + 1))))
                             rw [ei])
                        | fail
                    all_goals first
                      | (subst hA; exact rfl)
                      | (subst hA; show Region.lexB _ _ = true; kernel_rfl)
                      | (subst hA; show turnsB _ = true; kernel_rfl)
                      | (subst hA; intro q; exact q)
                      | (subst hA; intro _; exact trivial)
                      | (subst hA; intro q; simpa [A0] using q)
                      | (subst hA; intro _; exact rfl)
                      | (subst hFsH; rw [hms]; exact hPl.ok.isP)
                      | (subst hFsDl; rw [hms]; exact hPl.ok.isP)
                      | (subst hFsG; rw [hms]; exact hPl.ok.isP)
                      | (subst hFsR; rw [hms]; exact hPl.ok.isP)
                      | (subst hFsK; rw [hms]; exact hPl.ok.isP)
                      | (subst hFsK; rw [hms2]; exact hq2.ok.isP)
                      | (subst hA; exact hfacts.1)
                      | (subst hA; exact hfacts.2.1)
                      | (subst hA; exact hfacts.2.2)
                      | (subst hA; simp only [A0]; omega)
                      | (subst hA; simp only [A0, List.length_cons, List.length_nil]; omega)
                      | fail
                  · obtain ⟨qs, hq1, hq2⟩ := hPl.del hj3
                    obtain ⟨ms2, hms2⟩ : ∃ ms2, ms2 = pairsX qs := ⟨_, rfl⟩
                    have p1 : GFsDl.del ms akey = (ms2, true) := by subst hFsDl; rw [hms, hms2]; exact hq1
                    have u1 : A.cmp .geq AT 0 = true := by subst hA; exact decide_eq_true (by omega)
                    have u2 : A.not (A.beq true true) = false := by subst hA; rfl
                    cbv at u2
                    cbv at p1
                    cbv at u1
                    ((with_reducible refine goL (c := .region 29 _ _) (T := fun _ => tabY [33, 58, 59, 113, 116, 117, 119, 192, 193, 201, 202, 219, 220, 5004] []) (H := fun _ => [kn_put GFsH, kn_del GFsDl, kn_get GFsG, kn_range GFsR, kn_right GFsK, kn_has GFsS, kn_runs GFsU]) (tabY_ok _ _) hH follows_mixed hA hX ?_) <;> cbv)
                    repeat' first
                      | (simp only [p1, u1, u2]; cbv)
                      | (refine And.intro ?_ ?_)
                    rotate_right 1
                    · obtain ⟨kR, hkR⟩ : ∃ r, r = strP K := ⟨_, rfl⟩
                      obtain ⟨vR, hvR⟩ : ∃ r, r = strP V := ⟨_, rfl⟩
                      obtain ⟨tR, htR⟩ : ∃ r, r = intP T := ⟨_, rfl⟩
                      have hkc : cK = rowsD kR := by rw [hcK, hkR, strP_rows]
                      have hvc : cV = rowsD vR := by rw [hcV, hvR, strP_rows]
                      have htc : cT = rowsD tR := by rw [hcT, htR, intP_rows]
                      have hkl : N = kR.length := by rw [hkR, strP_len, hN]
                      have hvl : N = vR.length := by rw [hvR, strP_len, hPl.lv, hN]
                      have htl : N = tR.length := by rw [htR, intP_len, hPl.lt, hN]
                      have fzV : ∀ b v sz xs, fzL b v sz xs cV = cV := fun b v sz xs => by rw [hcV]; exact strR_fz _ _ _ _ _
                      have fzT : ∀ b v sz xs, fzL b v sz xs cT = cT := fun b v sz xs => by rw [hcT]; exact intR_fz _ _ _ _ _
                      have fzK : ∀ b v sz xs, fzL b v sz xs cK = cK := fun b v sz xs => by rw [hcK]; exact strR_fz _ _ _ _ _
                      refine pauseL hX (s' := [(0, .d (.slc 5 xs)), (3, .d (.slc 3 ms2)), (4, .d (.slc 1 kR)), (5, .view 1 1 vv 0 N), (6, .view 1 2 vt 0 N), (7, .d (.sc (.int .i64 i))), (8, .ref 3 0 0), (9, .d (.sc (.int .i64 AT)))]) (told_freeze2 0 1 kR ⟨9, cK, true, vk, true⟩ rfl rfl hkc (by rw [hkR]; exact strP_sz K) rfl ⟨.inl rfl, .inl rfl, .inl (by simp [getS, fzD, hkl]), .inl rfl, .inl rfl, .inl rfl, .inl rfl, .inl rfl, trivial⟩) ?_
                      simp only [fzSt, fzBox, List.getElem?_cons_zero, List.getElem?_cons_succ, List.map_cons, List.map_nil, List.set_cons_succ, List.set_cons_zero, fzV, fzT, fzK, fzL, fzD]
                      refine pauseL hX (s' := [(0, .d (.slc 5 xs)), (3, .d (.slc 3 ms2)), (4, .d (.slc 1 kR)), (5, .d (.slc 1 vR)), (6, .view 1 2 vt 0 N), (7, .d (.sc (.int .i64 i))), (8, .ref 3 0 0), (9, .d (.sc (.int .i64 AT)))]) (told_freeze2 1 1 vR ⟨9, cV, true, vv, true⟩ rfl rfl hvc (by rw [hvR]; exact strP_sz V) rfl ⟨.inl rfl, .inl rfl, .inl rfl, .inl (by simp [getS, fzD, hvl]), .inl rfl, .inl rfl, .inl rfl, .inl rfl, trivial⟩) ?_
                      simp only [fzSt, fzBox, List.getElem?_cons_zero, List.getElem?_cons_succ, List.map_cons, List.map_nil, List.set_cons_succ, List.set_cons_zero, fzV, fzT, fzK, fzL, fzD]
                      refine pauseL hX (s' := [(0, .d (.slc 5 xs)), (3, .d (.slc 3 ms2)), (4, .d (.slc 1 kR)), (5, .d (.slc 1 vR)), (6, .d (.slc 1 tR)), (7, .d (.sc (.int .i64 i))), (8, .ref 3 0 0), (9, .d (.sc (.int .i64 AT)))]) (told_freeze2 2 1 tR ⟨3, cT, true, vt, true⟩ rfl rfl htc (by rw [htR]; exact intP_sz T) rfl ⟨.inl rfl, .inl rfl, .inl rfl, .inl rfl, .inl (by simp [getS, fzD, htl]), .inl rfl, .inl rfl, .inl rfl, trivial⟩) ?_
                      simp only [fzSt, fzBox, List.getElem?_cons_zero, List.getElem?_cons_succ, List.map_cons, List.map_nil, List.set_cons_succ, List.set_cons_zero, fzV, fzT, fzK, fzL, fzD]
                      obtain ⟨N2, hN0⟩ : ∃ N2, N2 = N - 1 := ⟨_, rfl⟩
                      obtain ⟨K2, hK2⟩ : ∃ K2, K2 = K.take AT.toNat ++ K.drop (AT.toNat + 1) := ⟨_, rfl⟩
                      obtain ⟨V2, hV2⟩ : ∃ V2, V2 = V.take AT.toNat ++ V.drop (AT.toNat + 1) := ⟨_, rfl⟩
                      obtain ⟨T2, hT2⟩ : ∃ T2, T2 = T.take AT.toNat ++ T.drop (AT.toNat + 1) := ⟨_, rfl⟩
                      rw [← hK2, ← hV2, ← hT2] at hq2
                      have hN2 : N2 = K2.length := by rw [hK2, List.length_append, List.length_take, List.length_drop, hN0, hN]; omega
                      obtain ⟨AU, hAU⟩ : ∃ AU, AU = AT + 1 := ⟨_, rfl⟩
                      have a1 : A.bin .add .i64 AT 1 = AU := by subst hA; rw [hAU]; exact wrap_i64 (by unfold r64; omega)
                      have hAUn : AU.toNat = AT.toNat + 1 := by omega
                      have hAUb : 0 ≤ AU ∧ AU ≤ (N : Int) := by omega
                      have hATb : (0 : Int) ≤ 0 ∧ 0 ≤ AT ∧ AT ≤ (N : Int) := by omega
                      cbv at a1
                      obtain ⟨kA, hkA⟩ : ∃ r, r = strP (K.take AT.toNat) := ⟨_, rfl⟩
                      obtain ⟨kB, hkB⟩ : ∃ r, r = strP (K.drop (AT.toNat + 1)) := ⟨_, rfl⟩
                      have k1 : A.sub kR 0 AT = kA := by subst hA; rw [hkA, hkR]; show (List.drop 0 _).take (AT.toNat - 0) = _; simp [strP, List.map_take]
                      have k2 : A.sub kR AU (A.len kR) = kB := by
                        subst hA
                        rw [hkB, hkR]
                        show (List.drop AU.toNat _).take (((strP K).length : Int).toNat - AU.toNat) = _
                        rw [hAUn, List.take_of_length_le (by rw [List.length_drop]; omega)]
                        simp [strP, List.map_drop]
                      have kAl : kA.length = AT.toNat := by rw [hkA, strP_len, List.length_take, ← hN]; omega
                      have kBl : kB.length = N - (AT.toNat + 1) := by rw [hkB, strP_len, List.length_drop, ← hN]
                      have kz : (rowsD kA).length = kA.length := by rw [hkA, strP_rows, strR_len, strP_len]
                      obtain ⟨cK2, hcK0⟩ : ∃ c, c = A.app (A.app [] (A.rows kA)) (A.rows kB) := ⟨_, rfl⟩
                      have hcK2 : cK2 = strR K2 := by
                        rw [hcK0, hK2]
                        subst hA
                        show ([] ++ rowsD kA) ++ rowsD kB = _
                        rw [hkA, hkB, strP_rows, strP_rows]
                        simp [strR]
                      have k3 := hcK0.symm
                      have k4 : A.pl (A.pl 0 (A.lenN kA)) (A.lenN kB) = N2 := by
                        subst hA
                        show 0 + kA.length + kB.length = N2
                        rw [kAl, kBl, hN0]
                        omega
                      obtain ⟨vA, hvA⟩ : ∃ r, r = strP (V.take AT.toNat) := ⟨_, rfl⟩
                      obtain ⟨vB, hvB⟩ : ∃ r, r = strP (V.drop (AT.toNat + 1)) := ⟨_, rfl⟩
                      have v1 : A.sub vR 0 AT = vA := by subst hA; rw [hvA, hvR]; show (List.drop 0 _).take (AT.toNat - 0) = _; simp [strP, List.map_take]
                      have v2 : A.sub vR AU (A.len vR) = vB := by
                        subst hA
                        rw [hvB, hvR]
                        show (List.drop AU.toNat _).take (((strP V).length : Int).toNat - AU.toNat) = _
                        rw [hAUn, List.take_of_length_le (by rw [List.length_drop]; omega)]
                        simp [strP, List.map_drop]
                      have vAl : vA.length = AT.toNat := by rw [hvA, strP_len, List.length_take, hPl.lv, ← hN]; omega
                      have vBl : vB.length = N - (AT.toNat + 1) := by rw [hvB, strP_len, List.length_drop, hPl.lv, ← hN]
                      have vz : (rowsD vA).length = vA.length := by rw [hvA, strP_rows, strR_len, strP_len]
                      obtain ⟨cV2, hcV0⟩ : ∃ c, c = A.app (A.app [] (A.rows vA)) (A.rows vB) := ⟨_, rfl⟩
                      have hcV2 : cV2 = strR V2 := by
                        rw [hcV0, hV2]
                        subst hA
                        show ([] ++ rowsD vA) ++ rowsD vB = _
                        rw [hvA, hvB, strP_rows, strP_rows]
                        simp [strR]
                      have v3 := hcV0.symm
                      have v4 : A.pl (A.pl 0 (A.lenN vA)) (A.lenN vB) = N2 := by
                        subst hA
                        show 0 + vA.length + vB.length = N2
                        rw [vAl, vBl, hN0]
                        omega
                      obtain ⟨tA, htA⟩ : ∃ r, r = intP (T.take AT.toNat) := ⟨_, rfl⟩
                      obtain ⟨tB, htB⟩ : ∃ r, r = intP (T.drop (AT.toNat + 1)) := ⟨_, rfl⟩
                      have t1 : A.sub tR 0 AT = tA := by subst hA; rw [htA, htR]; show (List.drop 0 _).take (AT.toNat - 0) = _; simp [intP, List.map_take]
                      have t2 : A.sub tR AU (A.len tR) = tB := by
                        subst hA
                        rw [htB, htR]
                        show (List.drop AU.toNat _).take (((intP T).length : Int).toNat - AU.toNat) = _
                        rw [hAUn, List.take_of_length_le (by rw [List.length_drop]; omega)]
                        simp [intP, List.map_drop]
                      have tAl : tA.length = AT.toNat := by rw [htA, intP_len, List.length_take, hPl.lt, ← hN]; omega
                      have tBl : tB.length = N - (AT.toNat + 1) := by rw [htB, intP_len, List.length_drop, hPl.lt, ← hN]
                      have tz : (rowsD tA).length = tA.length := by rw [htA, intP_rows, intR_len, intP_len]
                      obtain ⟨cT2, hcT0⟩ : ∃ c, c = A.app (A.app [] (A.rows tA)) (A.rows tB) := ⟨_, rfl⟩
                      have hcT2 : cT2 = intR T2 := by
                        rw [hcT0, hT2]
                        subst hA
                        show ([] ++ rowsD tA) ++ rowsD tB = _
                        rw [htA, htB, intP_rows, intP_rows]
                        simp [intR]
                      have t3 := hcT0.symm
                      have t4 : A.pl (A.pl 0 (A.lenN tA)) (A.lenN tB) = N2 := by
                        subst hA
                        show 0 + tA.length + tB.length = N2
                        rw [tAl, tBl, hN0]
                        omega
                      have hbk : AU ≤ (kR.length : Int) ∧ AU ≤ (vR.length : Int) ∧ AU ≤ (tR.length : Int) := by omega
                      obtain ⟨vk2, hvk0⟩ : ∃ v, v = A.nxt (A.nxt 0) := ⟨_, rfl⟩
                      have n7 := hvk0.symm
                      cbv at k1
                      cbv at k2
                      cbv at k3
                      cbv at k4
                      cbv at v1
                      cbv at v2
                      cbv at v3
                      cbv at v4
                      cbv at t1
                      cbv at t2
                      cbv at t3
                      cbv at t4
                      cbv at n7
                      refine regionL [] [] (T := fun _ => tabY [33, 58, 59, 113, 116, 117, 119, 192, 193, 201, 202, 219, 220, 5004] []) (H := fun _ => [kn_put GFsH, kn_del GFsDl, kn_get GFsG, kn_range GFsR, kn_right GFsK, kn_has GFsS, kn_runs GFsU]) (B := fun _ => []) (R := fun _ => []) (A := A) (tabY_ok _ _) hH noB_ok noR_ok follows_mixed hA hX (by kernel_rfl) (by kernel_rfl) (by kernel_rfl) ?_
                      cbv
                      repeat' first
                        | (simp only [a1, k1, k2, v1, v2, t1, t2]; cbv)
                        | (refine And.intro ?_ ?_)
                        | ((refine regionL [] [] (T := fun _ => tabY [33, 58, 59, 113, 116, 117, 119, 192, 193, 201, 202, 219, 220, 5004] []) (H := fun _ => [kn_put GFsH, kn_del GFsDl, kn_get GFsG, kn_range GFsR, kn_right GFsK, kn_has GFsS, kn_runs GFsU]) (B := fun _ => []) (R := fun _ => []) (A := A) (tabY_ok _ _) hH noB_ok noR_ok follows_mixed hA hX (by kernel_rfl) (by kernel_rfl) (by kernel_rfl) ?_) <;> cbv)
                      have hfacts : True ∧ True ∧ True := ⟨trivial, trivial, trivial⟩
                      rotate_right 1
                      · simp only [k3, k4, v3, v4, t3, t4, n7]
                        have hq3 : PlI (i + 1) qs K2 V2 T2 := hq2.mono (by omega)
                        have w1 : GFsK.right ms2 = true := by subst hFsK; rw [hms2]; exact hq2.ok.right
                        have hlm : ms2.length = N2 := by rw [hms2, pairsX_length, hN2, hq2.len]
                        have w2 : A.cmp .neq (A.len ms2) (A.int N2) = false := by
                          subst hA
                          show (!decide ((ms2.length : Int) = (N2 : Int))) = false
                          rw [hlm, decide_eq_true rfl]
                          rfl
                        have w3 : A.not true = false := by subst hA; rfl
                        have w4 : A.cond false true false = false := by subst hA; rfl
                        have hpk : ∀ κ, pullL κ cK2 = cK2 := fun κ => by rw [hcK2]; exact strR_pull _ _
                        have hpv : ∀ κ, pullL κ cV2 = cV2 := fun κ => by rw [hcV2]; exact strR_pull _ _
                        have hpt : ∀ κ, pullL κ cT2 = cT2 := fun κ => by rw [hcT2]; exact intR_pull _ _
                        have ei : IntKind.wrap .i64 (i + 1) = i + 1 := wrap_i64 (by unfold r64; omega)
                        cbv at w1
                        cbv at w2
                        cbv at w3
                        cbv at w4
                        ((with_reducible refine goL (c := .region 51 _ _) (T := fun _ => tabY [33, 58, 59, 113, 116, 117, 119, 192, 193, 201, 202, 219, 220, 5004] []) (H := fun _ => [kn_put GFsH, kn_del GFsDl, kn_get GFsG, kn_range GFsR, kn_right GFsK, kn_has GFsS, kn_runs GFsU]) (tabY_ok _ _) hH follows_mixed hA hX ?_) <;> cbv)
                        repeat' first
                          | (simp only [w1, w2, w3, w4]; cbv)
                          | (refine And.intro ?_ ?_)
                        all_goals first
                          | (subst hA; exact rfl)
                          | (subst hA; show Region.lexB _ _ = true; kernel_rfl)
                          | (subst hA; show turnsB _ = true; kernel_rfl)
                          | (subst hA; intro q; exact q)
                          | (subst hA; intro _; exact trivial)
                          | (subst hA; intro q; simpa [A0] using q)
                          | (subst hA; intro _; exact rfl)
                          | (subst hFsH; rw [hms]; exact hPl.ok.isP)
                          | (subst hFsDl; rw [hms]; exact hPl.ok.isP)
                          | (subst hFsG; rw [hms]; exact hPl.ok.isP)
                          | (subst hFsR; rw [hms]; exact hPl.ok.isP)
                          | (subst hFsK; rw [hms]; exact hPl.ok.isP)
                          | (subst hFsK; rw [hms2]; exact hq2.ok.isP)
                          | (subst hA; exact hfacts.1)
                          | (subst hA; exact hfacts.2.1)
                          | (subst hA; exact hfacts.2.2)
                          | (subst hA; simp only [A0]; omega)
                          | (subst hA; simp only [A0, List.length_cons, List.length_nil]; omega)
                          | (subst hA
                             rw [hR]
                             refine ⟨.inr ⟨i + 1, 0, ms2, cK2, cV2, cT2, vk2, vk2, vk2, N2⟩, ⟨⟨by show 0 ≤ i + 1; omega, by show i + 1 ≤ m; omega⟩, qs, K2, V2, T2, hms2, hq3, hcK2, hcV2, hcT2, hN2⟩, (by show (m - (i + 1)).toNat < (m - i).toNat; omega), told_keep [4, 5, 6] rfl ?_ ?_⟩
                             · show [_, _, _] = [_, _, _]
                               show _ = [(⟨_, pullL [4, 5, 6] cK2, _, _, _⟩ : Box), (⟨_, pullL [4, 5, 6] cV2, _, _, _⟩ : Box), (⟨_, pullL [4, 5, 6] cT2, _, _, _⟩ : Box)]
                               rw [hpk, hpv, hpt]
                               try rfl
                             · refine ⟨.inl rfl, .inl rfl, .inl rfl, .inl rfl, .inl rfl, .inl ?_, trivial⟩
                               show DV.d (.sc (.int .i64 (i + 1))) = .d (.sc (.int .i64 (IntKind.wrap .i64 (i + 1))))
                               rw [ei])
                          | fail
                      all_goals first
                        | (subst hA; exact rfl)
                        | (subst hA; show Region.lexB _ _ = true; kernel_rfl)
                        | (subst hA; show turnsB _ = true; kernel_rfl)
                        | (subst hA; intro q; exact q)
                        | (subst hA; intro _; exact trivial)
                        | (subst hA; intro q; simpa [A0] using q)
                        | (subst hA; intro _; exact rfl)
                        | (subst hFsH; rw [hms]; exact hPl.ok.isP)
                        | (subst hFsDl; rw [hms]; exact hPl.ok.isP)
                        | (subst hFsG; rw [hms]; exact hPl.ok.isP)
                        | (subst hFsR; rw [hms]; exact hPl.ok.isP)
                        | (subst hFsK; rw [hms]; exact hPl.ok.isP)
                        | (subst hFsK; rw [hms2]; exact hq2.ok.isP)
                        | (subst hA; exact hfacts.1)
                        | (subst hA; exact hfacts.2.1)
                        | (subst hA; exact hfacts.2.2)
                        | (subst hA; simp only [A0]; omega)
                        | (subst hA; simp only [A0, List.length_cons, List.length_nil]; omega)
                        | (subst hA; exact ⟨hATb.1, hATb.2.1, by show AT ≤ (kR.length : Int); omega⟩)
                        | (subst hA; exact ⟨hATb.1, hATb.2.1, by show AT ≤ (vR.length : Int); omega⟩)
                        | (subst hA; exact ⟨hATb.1, hATb.2.1, by show AT ≤ (tR.length : Int); omega⟩)
                        | (subst hA; exact ⟨hAUb.1, hbk.1, Int.le_refl _⟩)
                        | (subst hA; exact ⟨hAUb.1, hbk.2.1, Int.le_refl _⟩)
                        | (subst hA; exact ⟨hAUb.1, hbk.2.2, Int.le_refl _⟩)
                        | (subst hA; show ([] ++ rowsD kA).length = (0 + kA.length) * 1; rw [List.nil_append, kz]; omega)
                        | (subst hA; show ([] ++ rowsD vA).length = (0 + vA.length) * 1; rw [List.nil_append, vz]; omega)
                        | (subst hA; show ([] ++ rowsD tA).length = (0 + tA.length) * 1; rw [List.nil_append, tz]; omega)
                        | fail
                    all_goals first
                      | (subst hA; exact rfl)
                      | (subst hA; show Region.lexB _ _ = true; kernel_rfl)
                      | (subst hA; show turnsB _ = true; kernel_rfl)
                      | (subst hA; intro q; exact q)
                      | (subst hA; intro _; exact trivial)
                      | (subst hA; intro q; simpa [A0] using q)
                      | (subst hA; intro _; exact rfl)
                      | (subst hFsH; rw [hms]; exact hPl.ok.isP)
                      | (subst hFsDl; rw [hms]; exact hPl.ok.isP)
                      | (subst hFsG; rw [hms]; exact hPl.ok.isP)
                      | (subst hFsR; rw [hms]; exact hPl.ok.isP)
                      | (subst hFsK; rw [hms]; exact hPl.ok.isP)
                      | (subst hFsK; rw [hms2]; exact hq2.ok.isP)
                      | (subst hA; exact hfacts.1)
                      | (subst hA; exact hfacts.2.1)
                      | (subst hA; exact hfacts.2.2)
                      | (subst hA; simp only [A0]; omega)
                      | (subst hA; simp only [A0, List.length_cons, List.length_nil]; omega)
                      | fail
                · have z2 : A.cmp .eql ak 2 = false := by subst hA; exact decide_eq_false e2
                  cbv at z2
                  by_cases e3 : ak = 3
                  · subst e3
                    have z3 : A.cmp .eql 3 3 = true := by subst hA; rfl
                    cbv at z3
                    ((with_reducible refine goL (c := .region 15 _ _) (T := fun _ => tabY [33, 58, 59, 113, 116, 117, 119, 192, 193, 201, 202, 219, 220, 5004] []) (H := fun _ => [kn_put GFsH, kn_del GFsDl, kn_get GFsG, kn_range GFsR, kn_right GFsK, kn_has GFsS, kn_runs GFsU]) (tabY_ok _ _) hH follows_mixed hA hX ?_) <;> cbv)
                    repeat (simp only [z1, z2, z3]; cbv)
                    rcases hAll2 with ⟨hA1, hA2⟩ | ⟨hj1, hj2, hj3⟩
                    · obtain ⟨E8, hE8⟩ : ∃ E8, E8 = none8 := ⟨_, rfl⟩
                      have p1 : GFsG.get ms akey = (⟨E8, E8, 0⟩, false) := by subst hFsG; rw [hms, hE8]; exact hPl.gotNo hA2
                      have u1 : A.cmp .geq AT 0 = false := by subst hA; exact decide_eq_false (by omega)
                      have u2 : A.not (A.beq false false) = false := by subst hA; rfl
                      have u3 : A.cond false true (A.cond false (A.cond (A.cond (A.scmp .neq E8 akey) true (A.scmp .neq E8 (A.gs cV (A.off 0 AT 1)))) true (A.cmp .neq 0 (A.gi cT (A.off 0 AT 1)))) false) = false := by subst hA; rfl
                      cbv at p1
                      cbv at u1
                      cbv at u2
                      cbv at u3
                      ((with_reducible refine goL (c := .region 38 _ _) (T := fun _ => tabY [33, 58, 59, 113, 116, 117, 119, 192, 193, 201, 202, 219, 220, 5004] []) (H := fun _ => [kn_put GFsH, kn_del GFsDl, kn_get GFsG, kn_range GFsR, kn_right GFsK, kn_has GFsS, kn_runs GFsU]) (tabY_ok _ _) hH follows_mixed hA hX ?_) <;> cbv)
                      repeat' first
                        | (simp only [p1, u1, u2, u3]; cbv)
                        | (refine And.intro ?_ ?_)
                        | ((with_reducible refine goL (c := .region 39 _ _) (T := fun _ => tabY [33, 58, 59, 113, 116, 117, 119, 192, 193, 201, 202, 219, 220, 5004] []) (H := fun _ => [kn_put GFsH, kn_del GFsDl, kn_get GFsG, kn_range GFsR, kn_right GFsK, kn_has GFsS, kn_runs GFsU]) (tabY_ok _ _) hH follows_mixed hA hX ?_) <;> cbv)
                      all_goals have hfacts : True ∧ True ∧ True := ⟨trivial, trivial, trivial⟩
                      rotate_right 1
                      · have hq3 : PlI (i + 1) ps K V T := hPl.mono (by omega)
                        have w1 : GFsK.right ms = true := by subst hFsK; rw [hms]; exact hPl.ok.right
                        have hlm : ms.length = N := by rw [hms, pairsX_length, hN, hPl.len]
                        have w2 : A.cmp .neq (A.len ms) (A.int N) = false := by
                          subst hA
                          show (!decide ((ms.length : Int) = (N : Int))) = false
                          rw [hlm, decide_eq_true rfl]
                          rfl
                        have w3 : A.not true = false := by subst hA; rfl
                        have w4 : A.cond false true false = false := by subst hA; rfl
                        have hpk : ∀ κ, pullL κ cK = cK := fun κ => by rw [hcK]; exact strR_pull _ _
                        have hpv : ∀ κ, pullL κ cV = cV := fun κ => by rw [hcV]; exact strR_pull _ _
                        have hpt : ∀ κ, pullL κ cT = cT := fun κ => by rw [hcT]; exact intR_pull _ _
                        have ei : IntKind.wrap .i64 (i + 1) = i + 1 := wrap_i64 (by unfold r64; omega)
                        cbv at w1
                        cbv at w2
                        cbv at w3
                        cbv at w4
                        ((with_reducible refine goL (c := .region 51 _ _) (T := fun _ => tabY [33, 58, 59, 113, 116, 117, 119, 192, 193, 201, 202, 219, 220, 5004] []) (H := fun _ => [kn_put GFsH, kn_del GFsDl, kn_get GFsG, kn_range GFsR, kn_right GFsK, kn_has GFsS, kn_runs GFsU]) (tabY_ok _ _) hH follows_mixed hA hX ?_) <;> cbv)
                        repeat' first
                          | (simp only [w1, w2, w3, w4]; cbv)
                          | (refine And.intro ?_ ?_)
                        all_goals first
                          | (subst hA; exact rfl)
                          | (subst hA; show Region.lexB _ _ = true; kernel_rfl)
                          | (subst hA; show turnsB _ = true; kernel_rfl)
                          | (subst hA; intro q; exact q)
                          | (subst hA; intro _; exact trivial)
                          | (subst hA; intro q; simpa [A0] using q)
                          | (subst hA; intro _; exact rfl)
                          | (subst hFsH; rw [hms]; exact hPl.ok.isP)
                          | (subst hFsDl; rw [hms]; exact hPl.ok.isP)
                          | (subst hFsG; rw [hms]; exact hPl.ok.isP)
                          | (subst hFsR; rw [hms]; exact hPl.ok.isP)
                          | (subst hFsK; rw [hms]; exact hPl.ok.isP)
                          | (subst hFsK; rw [hms]; exact hPl.ok.isP)
                          | (subst hA; exact hfacts.1)
                          | (subst hA; exact hfacts.2.1)
                          | (subst hA; exact hfacts.2.2)
                          | (subst hA; simp only [A0]; omega)
                          | (subst hA; simp only [A0, List.length_cons, List.length_nil]; omega)
                          | (subst hA
                             rw [hR]
                             refine ⟨.inr ⟨i + 1, 0, ms, cK, cV, cT, vk, vv, vt, N⟩, ⟨⟨by show 0 ≤ i + 1; omega, by show i + 1 ≤ m; omega⟩, ps, K, V, T, hms, hq3, hcK, hcV, hcT, hN⟩, (by show (m - (i + 1)).toNat < (m - i).toNat; omega), told_keep [0, 1, 2] rfl ?_ ?_⟩
                             · show [_, _, _] = [_, _, _]
                               show _ = [(⟨_, pullL [0, 1, 2] cK, _, _, _⟩ : Box), (⟨_, pullL [0, 1, 2] cV, _, _, _⟩ : Box), (⟨_, pullL [0, 1, 2] cT, _, _, _⟩ : Box)]
                               rw [hpk, hpv, hpt]
                               try rfl
                             · refine ⟨.inl rfl, .inl rfl, .inl rfl, .inl rfl, .inl rfl, .inl ?_, trivial⟩
                               show DV.d (.sc (.int .i64 (i + 1))) = .d (.sc (.int .i64 (IntKind.wrap .i64 (i + 1))))
                               rw [ei])
                          | fail
                      all_goals first
                        | (subst hA; exact rfl)
                        | (subst hA; show Region.lexB _ _ = true; kernel_rfl)
                        | (subst hA; show turnsB _ = true; kernel_rfl)
                        | (subst hA; intro q; exact q)
                        | (subst hA; intro _; exact trivial)
                        | (subst hA; intro q; simpa [A0] using q)
                        | (subst hA; intro _; exact rfl)
                        | (subst hFsH; rw [hms]; exact hPl.ok.isP)
                        | (subst hFsDl; rw [hms]; exact hPl.ok.isP)
                        | (subst hFsG; rw [hms]; exact hPl.ok.isP)
                        | (subst hFsR; rw [hms]; exact hPl.ok.isP)
                        | (subst hFsK; rw [hms]; exact hPl.ok.isP)
                        | (subst hFsK; rw [hms2]; exact hq2.ok.isP)
                        | (subst hA; exact hfacts.1)
                        | (subst hA; exact hfacts.2.1)
                        | (subst hA; exact hfacts.2.2)
                        | (subst hA; simp only [A0]; omega)
                        | (subst hA; simp only [A0, List.length_cons, List.length_nil]; omega)
                        | (subst hA; intro _; exact trivial)
                        | (subst hA; intro q; simpa [A0] using q)
                        | (subst hA; intro _; exact trivial)
                        | (subst hA; intro q; simpa [A0] using q)
                        | (subst hA; intro q; simp [A0] at q; done)
                        | fail
                    · obtain ⟨vj, tj, hvj, htj, _, ht1, ht2⟩ := hPl.get hj3
                      have hjV : AT.toNat < V.length := by rw [hPl.lv]; exact hj2
                      have hjT : AT.toNat < T.length := by rw [hPl.lt]; exact hj2
                      have htg : (intR T)[AT.toNat]? = some (.d (.sc (.int .i64 tj))) := by unfold intR; rw [List.getElem?_map, htj]; rfl
                      have hvg : (strR V)[AT.toNat]? = some (.d (.sc (.string vj))) := by unfold strR; rw [List.getElem?_map, hvj]; rfl
                      have q1 : A.gi cT (A.off 0 AT 1) = tj := by subst hA; show (match cT[0 + AT.toNat * 1]? with | some (.d (.sc (.int _ x))) => x | _ => 0) = tj; rw [Nat.zero_add, Nat.mul_one, hcT, htg]
                      have q2 : A.gs cV (A.off 0 AT 1) = vj := by subst hA; show (match cV[0 + AT.toNat * 1]? with | some (.d (.sc (.string x))) => x | _ => .empty) = vj; rw [Nat.zero_add, Nat.mul_one, hcV, hvg]
                      have hin : 0 ≤ AT ∧ AT < (N : Int) := ⟨hj1, by omega⟩
                      have hhT : A.has cT (A.off 0 AT 1) 1 [.d (.sc (.int .i64 tj))] := by
                        subst hA
                        simp only [A0, Nat.zero_add, Nat.mul_one]
                        have hl9 : AT.toNat < (intR T).length := by rw [intR_len]; exact hjT
                        refine ⟨rfl, by rw [hcT]; omega, ?_⟩
                        rw [hcT, List.drop_eq_getElem_cons hl9, List.take_succ_cons, List.take_zero]
                        rw [List.getElem?_eq_getElem hl9] at htg
                        rw [Option.some.inj htg]
                      have hhV : A.has cV (A.off 0 AT 1) 1 [.d (.sc (.string vj))] := by
                        subst hA
                        simp only [A0, Nat.zero_add, Nat.mul_one]
                        have hl9 : AT.toNat < (strR V).length := by rw [strR_len]; exact hjV
                        refine ⟨rfl, by rw [hcV]; omega, ?_⟩
                        rw [hcV, List.drop_eq_getElem_cons hl9, List.take_succ_cons, List.take_zero]
                        rw [List.getElem?_eq_getElem hl9] at hvg
                        rw [Option.some.inj hvg]
                      have c1 : A.scmp .neq akey akey = false := by subst hA; show (!decide (akey = akey)) = false; rw [decide_eq_true rfl]; rfl
                      have c2 : A.scmp .neq vj vj = false := by subst hA; show (!decide (vj = vj)) = false; rw [decide_eq_true rfl]; rfl
                      have c3 : A.cmp .neq tj tj = false := by subst hA; show (!decide (tj = tj)) = false; rw [decide_eq_true rfl]; rfl
                      have c4 : A.cond false true false = false := by subst hA; rfl
                      have c5 : A.cond true false false = false := by subst hA; rfl
                      cbv at q1
                      cbv at q2
                      cbv at hhT
                      cbv at hhV
                      cbv at c1
                      cbv at c2
                      cbv at c3
                      cbv at c4
                      cbv at c5
                      have p1 : GFsG.get ms akey = (⟨akey, vj, tj⟩, true) := by subst hFsG; rw [hms]; exact hPl.got hj3 hvj htj
                      have u1 : A.cmp .geq AT 0 = true := by subst hA; exact decide_eq_true (by omega)
                      have u2 : A.not (A.beq true true) = false := by subst hA; rfl
                      cbv at p1
                      cbv at u1
                      cbv at u2
                      ((with_reducible refine goL (c := .region 38 _ _) (T := fun _ => tabY [33, 58, 59, 113, 116, 117, 119, 192, 193, 201, 202, 219, 220, 5004] []) (H := fun _ => [kn_put GFsH, kn_del GFsDl, kn_get GFsG, kn_range GFsR, kn_right GFsK, kn_has GFsS, kn_runs GFsU]) (tabY_ok _ _) hH follows_mixed hA hX ?_) <;> cbv)
                      repeat' first
                        | (simp only [p1, u1, u2, q1, q2, c1, c2, c3, c4, c5]; cbv)
                        | (refine And.intro ?_ ?_)
                        | ((with_reducible refine goL (c := .region 39 _ _) (T := fun _ => tabY [33, 58, 59, 113, 116, 117, 119, 192, 193, 201, 202, 219, 220, 5004] []) (H := fun _ => [kn_put GFsH, kn_del GFsDl, kn_get GFsG, kn_range GFsR, kn_right GFsK, kn_has GFsS, kn_runs GFsU]) (tabY_ok _ _) hH follows_mixed hA hX ?_) <;> cbv)
                      all_goals have hfacts : True ∧ True ∧ True := ⟨trivial, trivial, trivial⟩
                      rotate_right 1
                      · have hq3 : PlI (i + 1) ps K V T := hPl.mono (by omega)
                        have w1 : GFsK.right ms = true := by subst hFsK; rw [hms]; exact hPl.ok.right
                        have hlm : ms.length = N := by rw [hms, pairsX_length, hN, hPl.len]
                        have w2 : A.cmp .neq (A.len ms) (A.int N) = false := by
                          subst hA
                          show (!decide ((ms.length : Int) = (N : Int))) = false
                          rw [hlm, decide_eq_true rfl]
                          rfl
                        have w3 : A.not true = false := by subst hA; rfl
                        have w4 : A.cond false true false = false := by subst hA; rfl
                        have hpk : ∀ κ, pullL κ cK = cK := fun κ => by rw [hcK]; exact strR_pull _ _
                        have hpv : ∀ κ, pullL κ cV = cV := fun κ => by rw [hcV]; exact strR_pull _ _
                        have hpt : ∀ κ, pullL κ cT = cT := fun κ => by rw [hcT]; exact intR_pull _ _
                        have ei : IntKind.wrap .i64 (i + 1) = i + 1 := wrap_i64 (by unfold r64; omega)
                        cbv at w1
                        cbv at w2
                        cbv at w3
                        cbv at w4
                        ((with_reducible refine goL (c := .region 51 _ _) (T := fun _ => tabY [33, 58, 59, 113, 116, 117, 119, 192, 193, 201, 202, 219, 220, 5004] []) (H := fun _ => [kn_put GFsH, kn_del GFsDl, kn_get GFsG, kn_range GFsR, kn_right GFsK, kn_has GFsS, kn_runs GFsU]) (tabY_ok _ _) hH follows_mixed hA hX ?_) <;> cbv)
                        repeat' first
                          | (simp only [w1, w2, w3, w4]; cbv)
                          | (refine And.intro ?_ ?_)
                        all_goals first
                          | (subst hA; exact rfl)
                          | (subst hA; show Region.lexB _ _ = true; kernel_rfl)
                          | (subst hA; show turnsB _ = true; kernel_rfl)
                          | (subst hA; intro q; exact q)
                          | (subst hA; intro _; exact trivial)
                          | (subst hA; intro q; simpa [A0] using q)
                          | (subst hA; intro _; exact rfl)
                          | (subst hFsH; rw [hms]; exact hPl.ok.isP)
                          | (subst hFsDl; rw [hms]; exact hPl.ok.isP)
                          | (subst hFsG; rw [hms]; exact hPl.ok.isP)
                          | (subst hFsR; rw [hms]; exact hPl.ok.isP)
                          | (subst hFsK; rw [hms]; exact hPl.ok.isP)
                          | (subst hFsK; rw [hms]; exact hPl.ok.isP)
                          | (subst hA; exact hfacts.1)
                          | (subst hA; exact hfacts.2.1)
                          | (subst hA; exact hfacts.2.2)
                          | (subst hA; simp only [A0]; omega)
                          | (subst hA; simp only [A0, List.length_cons, List.length_nil]; omega)
                          | (subst hA
                             rw [hR]
                             refine ⟨.inr ⟨i + 1, 0, ms, cK, cV, cT, vk, vv, vt, N⟩, ⟨⟨by show 0 ≤ i + 1; omega, by show i + 1 ≤ m; omega⟩, ps, K, V, T, hms, hq3, hcK, hcV, hcT, hN⟩, (by show (m - (i + 1)).toNat < (m - i).toNat; omega), told_keep [0, 1, 2] rfl ?_ ?_⟩
                             · show [_, _, _] = [_, _, _]
                               show _ = [(⟨_, pullL [0, 1, 2] cK, _, _, _⟩ : Box), (⟨_, pullL [0, 1, 2] cV, _, _, _⟩ : Box), (⟨_, pullL [0, 1, 2] cT, _, _, _⟩ : Box)]
                               rw [hpk, hpv, hpt]
                               try rfl
                             · refine ⟨.inl rfl, .inl rfl, .inl rfl, .inl rfl, .inl rfl, .inl ?_, trivial⟩
                               show DV.d (.sc (.int .i64 (i + 1))) = .d (.sc (.int .i64 (IntKind.wrap .i64 (i + 1))))
                               rw [ei])
                          | fail
                      all_goals first
                        | (subst hA; exact rfl)
                        | (subst hA; show Region.lexB _ _ = true; kernel_rfl)
                        | (subst hA; show turnsB _ = true; kernel_rfl)
                        | (subst hA; intro q; exact q)
                        | (subst hA; intro _; exact trivial)
                        | (subst hA; intro q; simpa [A0] using q)
                        | (subst hA; intro _; exact rfl)
                        | (subst hFsH; rw [hms]; exact hPl.ok.isP)
                        | (subst hFsDl; rw [hms]; exact hPl.ok.isP)
                        | (subst hFsG; rw [hms]; exact hPl.ok.isP)
                        | (subst hFsR; rw [hms]; exact hPl.ok.isP)
                        | (subst hFsK; rw [hms]; exact hPl.ok.isP)
                        | (subst hFsK; rw [hms2]; exact hq2.ok.isP)
                        | (subst hA; exact hfacts.1)
                        | (subst hA; exact hfacts.2.1)
                        | (subst hA; exact hfacts.2.2)
                        | (subst hA; simp only [A0]; omega)
                        | (subst hA; simp only [A0, List.length_cons, List.length_nil]; omega)
                        | (subst hA; intro _; exact hin)
                        | (subst hA; intro _; exact hhV)
                        | (subst hA; intro _; exact hhT)
                        | (subst hA; intro q; simp [A0] at q; done)
                        | fail
                  · have z3 : A.cmp .eql ak 3 = false := by subst hA; exact decide_eq_false e3
                    cbv at z3
                    by_cases e4 : ak = 4
                    · subst e4
                      have z4 : A.cmp .eql 4 4 = true := by subst hA; rfl
                      cbv at z4
                      ((with_reducible refine goL (c := .region 15 _ _) (T := fun _ => tabY [33, 58, 59, 113, 116, 117, 119, 192, 193, 201, 202, 219, 220, 5004] []) (H := fun _ => [kn_put GFsH, kn_del GFsDl, kn_get GFsG, kn_range GFsR, kn_right GFsK, kn_has GFsS, kn_runs GFsU]) (tabY_ok _ _) hH follows_mixed hA hX ?_) <;> cbv)
                      repeat (simp only [z1, z2, z3, z4]; cbv)
                      obtain ⟨sp, hsp⟩ : ∃ sp : Span, sp = ⟨alo, ahi⟩ := ⟨_, rfl⟩
                      refine loopL (T := fun _ => tabY [33, 58, 59, 113, 116, 117, 119, 192, 193, 201, 202, 219, 220, 5004] [15, 17, 25, 26, 27, 29, 34, 35, 36, 38, 39, 48, 51]) (H := fun _ => [kn_put GFsH, kn_del GFsDl, kn_get GFsG, kn_range GFsR, kn_right GFsK, kn_has GFsS, kn_runs GFsU]) (tabY_ok _ _) hH follows_mixed hA hX
                        (fun y : Int × Int => (0 ≤ y.1 ∧ y.1.toNat ≤ N) ∧ y.2 = (cntJ K sp y.1.toNat : Int))
                        (fun y => [(0, .d (.slc 5 xs)), (3, .d (.slc 3 ms)), (4, .view 1 0 vk 0 N), (5, .view 1 1 vv 0 N), (6, .view 1 2 vt 0 N), (7, .d (.sc (.int .i64 i))), (8, .ref 3 0 0), (17, .d (.sc (.int .i64 y.2))), (18, .d (.sc (.int .i64 y.1)))])
                        (fun y => [⟨9, cK, true, vk, true⟩, ⟨9, cV, true, vv, true⟩, ⟨3, cT, true, vt, true⟩, ⟨42, [.d (.sc (.int .i64 4)), .d (.sc (.string akey)), .d (.sc (.string aval)), .d (.sc (.string alo)), .d (.sc (.string ahi))], false, 0, true⟩]) (fun y => N - y.1.toNat) (0, 0) ?_ ?_ ?_
                      · exact ⟨⟨Int.le_refl 0, Nat.zero_le N⟩, rfl⟩
                      · exact told_less ⟨.inl rfl, .inl rfl, .inl rfl, .inl rfl, .inl rfl, .inl rfl, .inl rfl, .inl rfl, .inl rfl, trivial⟩
                      rintro R3 ⟨kj, CT⟩ hR3 ⟨hkj, hCT⟩
                      replace hkj : 0 ≤ kj ∧ kj.toNat ≤ N := hkj
                      replace hCT : CT = (cntJ K sp kj.toNat : Int) := hCT
                      have hCb : cntJ K sp kj.toNat ≤ 32 := by
                        unfold cntJ
                        have a1 := List.length_filter_le (hasS sp) (K.take kj.toNat)
                        rw [List.length_take] at a1
                        omega
                      have hCT3 : 0 ≤ CT ∧ CT ≤ 32 := by omega
                      have hCTn : CT.toNat = cntJ K sp kj.toNat := by omega
                      cbv
                      by_cases hkN3 : kj.toNat < N
                      · have l1 : A.cmp .lss kj (A.int N) = true := by subst hA; exact decide_eq_true (by show kj < (N : Int); omega)
                        have hkK : kj < (K.length : Int) := by omega
                        have hkt : kj.toNat < K.length := by omega
                        obtain ⟨kk, hkk⟩ : ∃ kk, kk = K[kj.toNat]'hkt := ⟨_, rfl⟩
                        have hce := strR_at (K := K) hkj.1 hkK
                        rw [← hkk, ← hcK] at hce
                        have l2 : A.gs cK (A.off 0 kj 1) = kk := by subst hA; show (match cK[0 + kj.toNat * 1]? with | some (.d (.sc (.string s))) => s | _ => .empty) = kk; rw [Nat.zero_add, Nat.mul_one, hce]
                        have hcl : cK.length = N := by rw [hcK, strR_len, hN]
                        have l3 : A.has cK (A.off 0 kj 1) 1 [.d (.sc (.string kk))] := by
                          subst hA
                          simp only [A0, Nat.zero_add, Nat.mul_one]
                          refine ⟨rfl, by omega, ?_⟩
                          rw [List.drop_eq_getElem_cons (by omega), List.take_succ_cons, List.take_zero]
                          rw [List.getElem?_eq_getElem (by omega)] at hce
                          rw [Option.some.inj hce]
                        have hcs := cntJ_succ (s := sp) hkt
                        rw [← hkk] at hcs
                        obtain ⟨hb, hhb⟩ : ∃ hb, hb = hasS sp kk := ⟨_, rfl⟩
                        have l4 : GFsS.has ⟨alo, ahi⟩ kk = hb := by subst hFsS; rw [hhb, hsp]; rfl
                        rw [← hhb] at hcs
                        cbv at l1
                        cbv at l2
                        cbv at l3
                        cbv at l4
                        repeat' first
                          | (simp only [l1, l2, l4]; cbv)
                          | (refine And.intro ?_ ?_)
                          | (refine part (fun h => ?_) (fun h => ?_) <;> try cbv)
                        all_goals have hfacts : True ∧ True ∧ True := ⟨trivial, trivial, trivial⟩
                        all_goals have ek : IntKind.wrap .i64 (kj + 1) = kj + 1 := wrap_i64 (by unfold r64; omega)
                        all_goals have ec : IntKind.wrap .i64 (CT + 1) = CT + 1 := wrap_i64 (by unfold r64; omega)
                        all_goals first
                          | (subst hA; exact rfl)
                          | (subst hA; show Region.lexB _ _ = true; kernel_rfl)
                          | (subst hA; show turnsB _ = true; kernel_rfl)
                          | (subst hA; intro q; exact q)
                          | (subst hA; intro _; exact trivial)
                          | (subst hA; intro q; simpa [A0] using q)
                          | (subst hA; intro _; exact rfl)
                          | (subst hFsH; rw [hms]; exact hPl.ok.isP)
                          | (subst hFsDl; rw [hms]; exact hPl.ok.isP)
                          | (subst hFsG; rw [hms]; exact hPl.ok.isP)
                          | (subst hFsR; rw [hms]; exact hPl.ok.isP)
                          | (subst hFsK; rw [hms]; exact hPl.ok.isP)
                          | (subst hFsK; rw [hms2]; exact hq2.ok.isP)
                          | (subst hA; exact hfacts.1)
                          | (subst hA; exact hfacts.2.1)
                          | (subst hA; exact hfacts.2.2)
                          | (subst hA; simp only [A0]; omega)
                          | (subst hA; simp only [A0, List.length_cons, List.length_nil]; omega)
                          | exact l3
                          | (subst hA; exact ⟨hkj.1, by omega⟩)
                          | (subst hA
                             rw [h, if_pos rfl] at hcs
                             rw [hR3]
                             refine ⟨(kj + 1, CT + 1), ⟨⟨by show 0 ≤ kj + 1; omega, by show (kj + 1).toNat ≤ N; omega⟩, ?_⟩, (by show N - (kj + 1).toNat < N - kj.toNat; omega), told_less ⟨.inl rfl, .inl rfl, .inl rfl, .inl rfl, .inl rfl, .inl rfl, .inl rfl, .inl ?_, .inl ?_, trivial⟩⟩
                             · show CT + 1 = (cntJ K sp (kj + 1).toNat : Int)
                               rw [show (kj + 1).toNat = kj.toNat + 1 by omega, hcs]
                               omega
                             · show DV.d (.sc (.int .i64 (CT + 1))) = .d (.sc (.int .i64 (IntKind.wrap .i64 (CT + 1))))
                               rw [ec]
                             · show DV.d (.sc (.int .i64 (kj + 1))) = .d (.sc (.int .i64 (IntKind.wrap .i64 (kj + 1))))
                               rw [ek])
                          | (subst hA
                             rw [h, if_neg (by simp)] at hcs
                             rw [hR3]
                             refine ⟨(kj + 1, CT), ⟨⟨by show 0 ≤ kj + 1; omega, by show (kj + 1).toNat ≤ N; omega⟩, ?_⟩, (by show N - (kj + 1).toNat < N - kj.toNat; omega), told_less ⟨.inl rfl, .inl rfl, .inl rfl, .inl rfl, .inl rfl, .inl rfl, .inl rfl, .inl rfl, .inl ?_, trivial⟩⟩
                             · show CT = (cntJ K sp (kj + 1).toNat : Int)
                               rw [show (kj + 1).toNat = kj.toNat + 1 by omega, hcs]
                               omega
                             · show DV.d (.sc (.int .i64 (kj + 1))) = .d (.sc (.int .i64 (IntKind.wrap .i64 (kj + 1))))
                               rw [ek])
                          | fail
                      · have l1 : A.cmp .lss kj (A.int N) = false := by subst hA; exact decide_eq_false (by show ¬ kj < (N : Int); omega)
                        have hkE : kj.toNat = K.length := by omega
                        have hRg := hPl.range sp
                        rw [← hkE] at hRg
                        obtain ⟨⟨rr, rm⟩, hrr⟩ : ∃ q, rangeX (pairsX ps) sp = q := ⟨_, rfl⟩
                        rw [hrr] at hRg
                        replace hRg : rr.length = min (cntJ K sp kj.toNat) 8 ∧ rm = decide (8 < cntJ K sp kj.toNat) := hRg
                        have l2 : GFsR.range ms ⟨alo, ahi⟩ = (rr, rm) := by subst hFsR; rw [hms, ← hsp]; exact hrr
                        obtain ⟨mn, hmn⟩ : ∃ mn, mn = A.mm false CT 8 := ⟨_, rfl⟩
                        have l3 : A.mm false CT 8 = mn := hmn.symm
                        have l4 : A.cmp .neq (A.len rr) mn = false := by
                          subst hA
                          rw [hmn]
                          show (!decide ((rr.length : Int) = min CT 8)) = false
                          rw [hRg.1, hCT, decide_eq_true (by omega)]
                          rfl
                        have l5 : A.not (A.beq rm (A.cmp .gtr CT 8)) = false := by
                          subst hA
                          show (!(rm == decide ((8 : Int) < CT))) = false
                          rw [hRg.2, hCT]
                          by_cases h8 : 8 < cntJ K sp kj.toNat
                          · rw [decide_eq_true h8, decide_eq_true (by omega)]; rfl
                          · rw [decide_eq_false h8, decide_eq_false (by omega)]; rfl
                        have l6 : A.cond false true false = false := by subst hA; rfl
                        cbv at l1
                        cbv at l2
                        cbv at l3
                        cbv at l4
                        cbv at l5
                        cbv at l6
                        simp only [l1]
                        cbv
                        repeat' first
                          | (simp only [l2, l3, l4, l5, l6]; cbv)
                          | (refine And.intro ?_ ?_)
                          | ((with_reducible refine goL (c := .region 48 _ _) (T := fun _ => tabY [33, 58, 59, 113, 116, 117, 119, 192, 193, 201, 202, 219, 220, 5004] []) (H := fun _ => [kn_put GFsH, kn_del GFsDl, kn_get GFsG, kn_range GFsR, kn_right GFsK, kn_has GFsS, kn_runs GFsU]) (tabY_ok _ _) hH follows_mixed hA hX ?_) <;> cbv)
                        all_goals have hfacts : True ∧ True ∧ True := ⟨trivial, trivial, trivial⟩
                        rotate_right 1
                        · have hq3 : PlI (i + 1) ps K V T := hPl.mono (by omega)
                          have w1 : GFsK.right ms = true := by subst hFsK; rw [hms]; exact hPl.ok.right
                          have hlm : ms.length = N := by rw [hms, pairsX_length, hN, hPl.len]
                          have w2 : A.cmp .neq (A.len ms) (A.int N) = false := by
                            subst hA
                            show (!decide ((ms.length : Int) = (N : Int))) = false
                            rw [hlm, decide_eq_true rfl]
                            rfl
                          have w3 : A.not true = false := by subst hA; rfl
                          have w4 : A.cond false true false = false := by subst hA; rfl
                          have hpk : ∀ κ, pullL κ cK = cK := fun κ => by rw [hcK]; exact strR_pull _ _
                          have hpv : ∀ κ, pullL κ cV = cV := fun κ => by rw [hcV]; exact strR_pull _ _
                          have hpt : ∀ κ, pullL κ cT = cT := fun κ => by rw [hcT]; exact intR_pull _ _
                          have ei : IntKind.wrap .i64 (i + 1) = i + 1 := wrap_i64 (by unfold r64; omega)
                          cbv at w1
                          cbv at w2
                          cbv at w3
                          cbv at w4
                          ((with_reducible refine goL (c := .region 51 _ _) (T := fun _ => tabY [33, 58, 59, 113, 116, 117, 119, 192, 193, 201, 202, 219, 220, 5004] []) (H := fun _ => [kn_put GFsH, kn_del GFsDl, kn_get GFsG, kn_range GFsR, kn_right GFsK, kn_has GFsS, kn_runs GFsU]) (tabY_ok _ _) hH follows_mixed hA hX ?_) <;> cbv)
                          repeat' first
                            | (simp only [w1, w2, w3, w4]; cbv)
                            | (refine And.intro ?_ ?_)
                          all_goals first
                            | (subst hA; exact rfl)
                            | (subst hA; show Region.lexB _ _ = true; kernel_rfl)
                            | (subst hA; show turnsB _ = true; kernel_rfl)
                            | (subst hA; intro q; exact q)
                            | (subst hA; intro _; exact trivial)
                            | (subst hA; intro q; simpa [A0] using q)
                            | (subst hA; intro _; exact rfl)
                            | (subst hFsH; rw [hms]; exact hPl.ok.isP)
                            | (subst hFsDl; rw [hms]; exact hPl.ok.isP)
                            | (subst hFsG; rw [hms]; exact hPl.ok.isP)
                            | (subst hFsR; rw [hms]; exact hPl.ok.isP)
                            | (subst hFsK; rw [hms]; exact hPl.ok.isP)
                            | (subst hFsK; rw [hms]; exact hPl.ok.isP)
                            | (subst hA; exact hfacts.1)
                            | (subst hA; exact hfacts.2.1)
                            | (subst hA; exact hfacts.2.2)
                            | (subst hA; simp only [A0]; omega)
                            | (subst hA; simp only [A0, List.length_cons, List.length_nil]; omega)
                            | (subst hA
                               rw [hR]
                               refine ⟨.inr ⟨i + 1, 0, ms, cK, cV, cT, vk, vv, vt, N⟩, ⟨⟨by show 0 ≤ i + 1; omega, by show i + 1 ≤ m; omega⟩, ps, K, V, T, hms, hq3, hcK, hcV, hcT, hN⟩, (by show (m - (i + 1)).toNat < (m - i).toNat; omega), told_keep [0, 1, 2] rfl ?_ ?_⟩
                               · show [_, _, _] = [_, _, _]
                                 show _ = [(⟨_, pullL [0, 1, 2] cK, _, _, _⟩ : Box), (⟨_, pullL [0, 1, 2] cV, _, _, _⟩ : Box), (⟨_, pullL [0, 1, 2] cT, _, _, _⟩ : Box)]
                                 rw [hpk, hpv, hpt]
                                 try rfl
                               · refine ⟨.inl rfl, .inl rfl, .inl rfl, .inl rfl, .inl rfl, .inl ?_, trivial⟩
                                 show DV.d (.sc (.int .i64 (i + 1))) = .d (.sc (.int .i64 (IntKind.wrap .i64 (i + 1))))
                                 rw [ei])
                            | fail
                        all_goals first
                          | (subst hA; exact rfl)
                          | (subst hA; show Region.lexB _ _ = true; kernel_rfl)
                          | (subst hA; show turnsB _ = true; kernel_rfl)
                          | (subst hA; intro q; exact q)
                          | (subst hA; intro _; exact trivial)
                          | (subst hA; intro q; simpa [A0] using q)
                          | (subst hA; intro _; exact rfl)
                          | (subst hFsH; rw [hms]; exact hPl.ok.isP)
                          | (subst hFsDl; rw [hms]; exact hPl.ok.isP)
                          | (subst hFsG; rw [hms]; exact hPl.ok.isP)
                          | (subst hFsR; rw [hms]; exact hPl.ok.isP)
                          | (subst hFsK; rw [hms]; exact hPl.ok.isP)
                          | (subst hFsK; rw [hms2]; exact hq2.ok.isP)
                          | (subst hA; exact hfacts.1)
                          | (subst hA; exact hfacts.2.1)
                          | (subst hA; exact hfacts.2.2)
                          | (subst hA; simp only [A0]; omega)
                          | (subst hA; simp only [A0, List.length_cons, List.length_nil]; omega)
                          | fail
                    · have z4 : A.cmp .eql ak 4 = false := by subst hA; exact decide_eq_false e4
                      cbv at z4
                      ((with_reducible refine goL (c := .region 15 _ _) (T := fun _ => tabY [33, 58, 59, 113, 116, 117, 119, 192, 193, 201, 202, 219, 220, 5004] []) (H := fun _ => [kn_put GFsH, kn_del GFsDl, kn_get GFsG, kn_range GFsR, kn_right GFsK, kn_has GFsS, kn_runs GFsU]) (tabY_ok _ _) hH follows_mixed hA hX ?_) <;> cbv)
                      repeat (simp only [z1, z2, z3, z4]; cbv)
                      have hq3 : PlI (i + 1) ps K V T := hPl.mono (by omega)
                      have w1 : GFsK.right ms = true := by subst hFsK; rw [hms]; exact hPl.ok.right
                      have hlm : ms.length = N := by rw [hms, pairsX_length, hN, hPl.len]
                      have w2 : A.cmp .neq (A.len ms) (A.int N) = false := by
                        subst hA
                        show (!decide ((ms.length : Int) = (N : Int))) = false
                        rw [hlm, decide_eq_true rfl]
                        rfl
                      have w3 : A.not true = false := by subst hA; rfl
                      have w4 : A.cond false true false = false := by subst hA; rfl
                      have hpk : ∀ κ, pullL κ cK = cK := fun κ => by rw [hcK]; exact strR_pull _ _
                      have hpv : ∀ κ, pullL κ cV = cV := fun κ => by rw [hcV]; exact strR_pull _ _
                      have hpt : ∀ κ, pullL κ cT = cT := fun κ => by rw [hcT]; exact intR_pull _ _
                      have ei : IntKind.wrap .i64 (i + 1) = i + 1 := wrap_i64 (by unfold r64; omega)
                      cbv at w1
                      cbv at w2
                      cbv at w3
                      cbv at w4
                      ((with_reducible refine goL (c := .region 51 _ _) (T := fun _ => tabY [33, 58, 59, 113, 116, 117, 119, 192, 193, 201, 202, 219, 220, 5004] []) (H := fun _ => [kn_put GFsH, kn_del GFsDl, kn_get GFsG, kn_range GFsR, kn_right GFsK, kn_has GFsS, kn_runs GFsU]) (tabY_ok _ _) hH follows_mixed hA hX ?_) <;> cbv)
                      repeat' first
                        | (simp only [w1, w2, w3, w4]; cbv)
                        | (refine And.intro ?_ ?_)
                      all_goals first
                        | (subst hA; exact rfl)
                        | (subst hA; show Region.lexB _ _ = true; kernel_rfl)
                        | (subst hA; show turnsB _ = true; kernel_rfl)
                        | (subst hA; intro q; exact q)
                        | (subst hA; intro _; exact trivial)
                        | (subst hA; intro q; simpa [A0] using q)
                        | (subst hA; intro _; exact rfl)
                        | (subst hFsH; rw [hms]; exact hPl.ok.isP)
                        | (subst hFsDl; rw [hms]; exact hPl.ok.isP)
                        | (subst hFsG; rw [hms]; exact hPl.ok.isP)
                        | (subst hFsR; rw [hms]; exact hPl.ok.isP)
                        | (subst hFsK; rw [hms]; exact hPl.ok.isP)
                        | (subst hFsK; rw [hms]; exact hPl.ok.isP)
                        | (subst hA; exact hfacts.1)
                        | (subst hA; exact hfacts.2.1)
                        | (subst hA; exact hfacts.2.2)
                        | (subst hA; simp only [A0]; omega)
                        | (subst hA; simp only [A0, List.length_cons, List.length_nil]; omega)
                        | (subst hA
                           rw [hR]
                           refine ⟨.inr ⟨i + 1, 0, ms, cK, cV, cT, vk, vv, vt, N⟩, ⟨⟨by show 0 ≤ i + 1; omega, by show i + 1 ≤ m; omega⟩, ps, K, V, T, hms, hq3, hcK, hcV, hcT, hN⟩, (by show (m - (i + 1)).toNat < (m - i).toNat; omega), told_keep [0, 1, 2] rfl ?_ ?_⟩
                           · show [_, _, _] = [_, _, _]
                             show _ = [(⟨_, pullL [0, 1, 2] cK, _, _, _⟩ : Box), (⟨_, pullL [0, 1, 2] cV, _, _, _⟩ : Box), (⟨_, pullL [0, 1, 2] cT, _, _, _⟩ : Box)]
                             rw [hpk, hpv, hpt]
                             try rfl
                           · refine ⟨.inl rfl, .inl rfl, .inl rfl, .inl rfl, .inl rfl, .inl ?_, trivial⟩
                             show DV.d (.sc (.int .i64 (i + 1))) = .d (.sc (.int .i64 (IntKind.wrap .i64 (i + 1))))
                             rw [ei])
                        | fail
            all_goals have hfacts : True ∧ True ∧ True := ⟨trivial, trivial, trivial⟩
            all_goals first
              | (subst hA; exact rfl)
              | (subst hA; show Region.lexB _ _ = true; kernel_rfl)
              | (subst hA; show turnsB _ = true; kernel_rfl)
              | (subst hA; intro q; exact q)
              | (subst hA; intro _; exact trivial)
              | (subst hA; intro q; simpa [A0] using q)
              | (subst hA; intro _; exact rfl)
              | (subst hFsH; rw [hms]; exact hPl.ok.isP)
              | (subst hFsDl; rw [hms]; exact hPl.ok.isP)
              | (subst hFsG; rw [hms]; exact hPl.ok.isP)
              | (subst hFsR; rw [hms]; exact hPl.ok.isP)
              | (subst hFsK; rw [hms]; exact hPl.ok.isP)
              | (subst hFsK; rw [hms2]; exact hq2.ok.isP)
              | (subst hA; exact hfacts.1)
              | (subst hA; exact hfacts.2.1)
              | (subst hA; exact hfacts.2.2)
              | (subst hA; simp only [A0]; omega)
              | (subst hA; simp only [A0, List.length_cons, List.length_nil]; omega)
              | fail
        · simp only [fB]
          cbv
          repeat' (refine And.intro ?_ ?_)
          all_goals have hq3 : PlI (i + 1) ps K V T := hPl.mono (by omega)
          all_goals have hpk : ∀ κ, pullL κ cK = cK := fun κ => by rw [hcK]; exact strR_pull _ _
          all_goals have hpv : ∀ κ, pullL κ cV = cV := fun κ => by rw [hcV]; exact strR_pull _ _
          all_goals have hpt : ∀ κ, pullL κ cT = cT := fun κ => by rw [hcT]; exact intR_pull _ _
          all_goals have ei : IntKind.wrap .i64 (i + 1) = i + 1 := wrap_i64 (by unfold r64; omega)
          all_goals have hfacts : True ∧ True ∧ True := ⟨trivial, trivial, trivial⟩
          all_goals first
            | (subst hA; exact rfl)
            | (subst hA; show Region.lexB _ _ = true; kernel_rfl)
            | (subst hA; show turnsB _ = true; kernel_rfl)
            | (subst hA; intro q; exact q)
            | (subst hA; intro _; exact trivial)
            | (subst hA; intro q; simpa [A0] using q)
            | (subst hA; intro _; exact rfl)
            | (subst hFsH; rw [hms]; exact hPl.ok.isP)
            | (subst hFsDl; rw [hms]; exact hPl.ok.isP)
            | (subst hFsG; rw [hms]; exact hPl.ok.isP)
            | (subst hFsR; rw [hms]; exact hPl.ok.isP)
            | (subst hFsK; rw [hms]; exact hPl.ok.isP)
            | (subst hFsK; rw [hms2]; exact hq2.ok.isP)
            | (subst hA; exact hfacts.1)
            | (subst hA; exact hfacts.2.1)
            | (subst hA; exact hfacts.2.2)
            | (subst hA; simp only [A0]; omega)
            | (subst hA; simp only [A0, List.length_cons, List.length_nil]; omega)
            | (subst hA
               rw [hR]
               refine ⟨.inr ⟨i + 1, 0, ms, cK, cV, cT, vk, vv, vt, N⟩, ⟨⟨by show 0 ≤ i + 1; omega, by show i + 1 ≤ m; omega⟩, ps, K, V, T, hms, hq3, hcK, hcV, hcT, hN⟩, (by show (m - (i + 1)).toNat < (m - i).toNat; omega), told_keep [0, 1, 2] rfl ?_ ?_⟩
               · show [_, _, _] = [_, _, _]
                 show _ = [(⟨_, pullL [0, 1, 2] cK, _, _, _⟩ : Box), (⟨_, pullL [0, 1, 2] cV, _, _, _⟩ : Box), (⟨_, pullL [0, 1, 2] cT, _, _, _⟩ : Box)]
                 rw [hpk, hpv, hpt]
                 try rfl
               · refine ⟨.inl rfl, .inl rfl, .inl rfl, .inl rfl, .inl rfl, .inl ?_, trivial⟩
                 show DV.d (.sc (.int .i64 (i + 1))) = .d (.sc (.int .i64 (IntKind.wrap .i64 (i + 1))))
                 rw [ei])
            | fail
      all_goals have hfacts : True ∧ True ∧ True := ⟨trivial, trivial, trivial⟩
      all_goals first
        | (subst hA; exact rfl)
        | (subst hA; show Region.lexB _ _ = true; kernel_rfl)
        | (subst hA; show turnsB _ = true; kernel_rfl)
        | (subst hA; intro q; exact q)
        | (subst hA; intro _; exact trivial)
        | (subst hA; intro q; simpa [A0] using q)
        | (subst hA; intro _; exact rfl)
        | (subst hFsH; rw [hms]; exact hPl.ok.isP)
        | (subst hFsDl; rw [hms]; exact hPl.ok.isP)
        | (subst hFsG; rw [hms]; exact hPl.ok.isP)
        | (subst hFsR; rw [hms]; exact hPl.ok.isP)
        | (subst hFsK; rw [hms]; exact hPl.ok.isP)
        | (subst hFsK; rw [hms2]; exact hq2.ok.isP)
        | (subst hA; exact hfacts.1)
        | (subst hA; exact hfacts.2.1)
        | (subst hA; exact hfacts.2.2)
        | (subst hA; simp only [A0]; omega)
        | (subst hA; simp only [A0, List.length_cons, List.length_nil]; omega)
        | exact rh
        | (subst hA; exact ⟨h1, by show i < (xs.length : Int); omega⟩)
        | fail
    · have f3 : A.cond (A.cmp .lss i n) (A.cmp .lss i 60) false = false := by
        subst hA
        show (bif decide (i < n) then decide (i < 60) else false) = false
        by_cases g : i < n
        · rw [decide_eq_true g, decide_eq_false (by omega)]
          rfl
        · rw [decide_eq_false g]
          rfl
      cbv at f3
      repeat' first
        | (simp only [f3]; cbv)
        | (refine And.intro ?_ ?_)
      all_goals first
        | (subst hA; exact rfl)
        | (subst hA; show Region.lexB _ _ = true; kernel_rfl)
        | (subst hA; show turnsB _ = true; kernel_rfl)
        | (subst hA; intro q; exact q)
        | (subst hA; intro _; exact trivial)
        | (subst hA; intro _; exact rfl)
        | (subst hA; intro q; simpa [A0] using q)
        | (subst hA hW hFsU; exact ret_v rfl rfl)
        | exact trivial
        | fail
end Go.Proofs.Ytbceikkjogbgeaa
