/- The pair of a key; a value put under a key; a pair taken out: what the functions of the program and of the document give. No condition. -/
import Derived.Test.YtbceikkjogbgeaaKv3
import Derived.Test.YtbceikkjogbgeaaKvI3
namespace Go.Proofs.Ytbceikkjogbgeaa
open Go.RowKit
set_option linter.all false
def getP (xs : List (List PD)) (key : ByteArray) : Pair × Bool := (getX xs key, thereX xs key)
theorem isP.row {xs : List (List PD)} (h : isP xs) {i : Int} (h0 : 0 ≤ i) (h1 : i < xs.length) : ∃ p : Pair, xs.getD i.toNat [] = p.row := by
  obtain ⟨ps, hxs, _⟩ := h
  have hl : xs.length = ps.length := by rw [hxs]; exact pairsX_length ps
  exact ⟨_, prow hxs h0 (by omega)⟩
theorem rowP_row (p : Pair) : rowP p.row = p := rfl

structure FsG where
  get : List (List PD) → ByteArray → Pair × Bool
  getR : List (List PD) → ByteArray → Pair × Bool
  isP : List (List PD) → Prop
def FsG0 : FsG where
  get := getP
  getR := getP
  isP := isP
set_option maxRecDepth 100000 in
theorem v_get (xs : List (List PD)) (key : ByteArray) (hp0 : FsG0.isP xs) : FnV Try.prog 11 [.d (.slc 3 xs), strD key] (.tup [Pair.D (((getP xs key)).1), boolD (((getP xs key)).2)]) := by
  have hr := findX_range xs key
  obtain ⟨GFsP, hGFsP⟩ : ∃ F, F = FsP0 := ⟨_, rfl⟩
  have hH : SoundK Try.prog [kn_find GFsP] := by subst hGFsP; exact orK_ok ok_find noK_ok
  refine FnD_cbv (T := fun _ => tabY [19] []) (H := fun _ => [kn_find GFsP]) (tabY_ok _ _) hH follows_mixed Try.func11 rfl Try.ntmps11 (by simp) fun A X W hA hX hW => ?_
  clear hH
  cbv
  repeat' first
    | (refine part (fun h => ?_) (fun h => ?_) <;> try cbv)
    | (refine And.intro ?_ ?_)
  all_goals subst hA hX hW hGFsP
  all_goals try (show Region.lexB _ _ = true; kernel_rfl)
  all_goals try (show turnsB _ = true; kernel_rfl)
  all_goals simp only [A0, FsP0, FsG0, decide_eq_true_eq, decide_eq_false_iff_not, Bool.not_eq_true', Bool.not_eq_false'] at *
  all_goals first
    | assumption
    | (refine ret_v ?_ rfl
       simp [getP, getX, thereX, *, Pair.D, boolD]
       done)
    | (have h := ‹(findX xs key).snd = true›
       obtain ⟨p, hp⟩ := hp0.row hr.1 (hr.2.2 h)
       first
         | exact ⟨hr.1, hr.2.2 h⟩
         | (rw [hp]; simp [Pair.row]; done)
         | (have hg : getP xs key = (p, true) := by
              unfold getP getX thereX
              rw [if_pos h, hp, h]; rfl
            refine ret_v ?_ rfl
            rw [hp, hg]
            simp [Pair.D, Pair.row, boolD]
            done))

def kn_get (F : FsG) : FuncId × (List DV → RV) := (11, fun args => match args with
  | [.d (.slc 3 xs), .d (.sc (.string key))] => some ([F.isP xs], .tup [Pair.D (((F.get xs key)).1), boolD (((F.get xs key)).2)])
  | [.d (.sc (.slice none 0 0)), .d (.sc (.string key))] => some ([F.isP []], .tup [Pair.D (((F.get [] key)).1), boolD (((F.get [] key)).2)])
  | _ => none)
theorem ok_get (args : List DV) (cs : List Prop) (r : DV) (h : (kn_get FsG0).2 args = some (cs, r)) (hc : allP cs True) : FnV Try.prog 11 args r ∧ closedL 0 args = true := by
  unfold kn_get at h
  simp only at h
  split at h
  · cases h; exact ⟨v_get _ _ hc.1, rfl⟩
  · cases h; exact ⟨FnP.nils (v_get [] _ hc.1) ⟨.inr ⟨rfl, _, rfl⟩, ⟨.inl rfl, trivial⟩⟩, rfl⟩
  · cases h
/-- A value put under a key. -/
def setP (xs : List (List PD)) (i : Nat) (value : ByteArray) : List (List PD) := xs.set i (Pair.row ⟨(rowP (xs.getD i [])).key, value, IntKind.wrap .i64 ((rowP (xs.getD i [])).version + 1)⟩)
def newP (xs : List (List PD)) (i : Nat) (key value : ByteArray) : List (List PD) := xs.take i ++ [Pair.row ⟨key, value, 1⟩] ++ xs.drop i
def putX (xs : List (List PD)) (key value : ByteArray) : List (List PD) × Int :=
  if (findX xs key).2 = true then (setP xs (findX xs key).1.toNat value, 0) else if 32 ≤ xs.length then ([], 7) else (newP xs (findX xs key).1.toNat key value, 0)
theorem findX_nil (key : ByteArray) : findX [] key = (0, false) := rfl
theorem isP.set {xs : List (List PD)} (h : isP xs) (i : Nat) (p : Pair) : isP (xs.set i p.row) := by
  obtain ⟨ps, rfl, hl⟩ := h
  exact ⟨ps.set i p, by simp [pairsX, List.map_set], by simpa using hl⟩
theorem isP.ins {xs : List (List PD)} (h : isP xs) (hl : xs.length ≤ 1000000) (i : Nat) (p : Pair) : isP (xs.take i ++ [p.row] ++ xs.drop i) := by
  obtain ⟨ps, rfl, _⟩ := h
  refine ⟨ps.take i ++ [p] ++ ps.drop i, by simp [pairsX, List.map_take, List.map_drop], ?_⟩
  rw [pairsX_length] at hl
  simp only [List.length_append, List.length_take, List.length_drop, List.length_singleton]
  omega
theorem rowsD_len {xs : List (List PD)} {sz : Nat} (h : ∀ x ∈ xs, x.length = sz) : (rowsD xs).length = xs.length * sz := by
  induction xs with
  | nil => simp [rowsD]
  | cons x xs ih =>
    have := ih fun y hy => h y (by simp [hy])
    have hx := h x (by simp)
    simp only [rowsD, List.flatten_cons, List.map_append, List.length_append, List.length_map, List.length_cons] at this ⊢
    rw [this, hx, Nat.add_mul]
    omega
theorem rowsD_cut {xs : List (List PD)} {sz : Nat} (h : ∀ x ∈ xs, x.length = sz) (i : Nat) (hi : i < xs.length) : rowsD xs = rowsD (xs.take i) ++ ((xs.getD i []).map .d ++ rowsD (xs.drop (i + 1))) := by
  have e : xs = xs.take i ++ (xs.getD i [] :: xs.drop (i + 1)) := by
    rw [List.getD_eq_getElem?_getD, List.getElem?_eq_getElem hi, Option.getD_some, ← List.drop_eq_getElem_cons hi, List.take_append_drop]
  conv => lhs; rw [e]
  simp [rowsD]
theorem rowsD_set {xs : List (List PD)} {sz : Nat} (h : ∀ x ∈ xs, x.length = sz) (i : Nat) (hi : i < xs.length) (y : List PD) : rowsD (xs.set i y) = rowsD (xs.take i) ++ (y.map .d ++ rowsD (xs.drop (i + 1))) := by
  rw [List.set_eq_take_append_cons_drop, if_pos hi]
  simp [rowsD]
theorem take_len {xs : List (List PD)} {sz : Nat} (h : ∀ x ∈ xs, x.length = sz) (i : Nat) (hi : i ≤ xs.length) : (rowsD (xs.take i)).length = i * sz := by
  rw [rowsD_len fun y hy => h y (List.mem_of_mem_take hy), List.length_take, Nat.min_eq_left hi]
theorem insR_rows {xs : List (List PD)} (h : ∀ x ∈ xs, x.length = 3) (i : Nat) (hi : i ≤ xs.length) (y : List PD) : insR (rowsD xs) (y.map .d) (i : Int) = rowsD (xs.take i ++ [y] ++ xs.drop i) := by
  have e : rowsD xs = rowsD (xs.take i) ++ rowsD (xs.drop i) := by rw [← rowsD_append, List.take_append_drop]
  have hl := take_len h i hi
  simp only [insR, Int.toNat_natCast]
  rw [e, List.take_append_of_le_length (by omega), List.take_of_length_le (by omega), List.drop_append_of_le_length (by omega), List.drop_eq_nil_of_le (by omega)]
  simp [rowsD]
/-- What is loaded of a row, and the row behind two stores. -/
theorem put_load {ys : List (List PD)} (h : isP ys) (i : Nat) (hi : i < ys.length) (value : ByteArray) :
    (splice (rowsD ys) (i * 3 + 1) [.d (.sc (.string value))])[i * 3 + 2]? = some (.d (.sc (.int .i64 (rowP (ys.getD i [])).version))) := by
  obtain ⟨p, hp⟩ := h.row (i := i) (by omega) (by omega)
  rw [Int.toNat_natCast] at hp
  have hl := take_len h.sz i (by omega)
  rw [hp, rowP_row, splice, splice_get _ _ _ (by rw [rowsD_len h.sz]; simp; omega), if_neg (by simp), rowsD_cut h.sz i hi, hp, List.getElem?_append_right (by omega), hl]
  simp [Pair.row]
theorem put_store {ys : List (List PD)} (h : isP ys) (i : Nat) (hi : i < ys.length) (value : ByteArray) (n : Int) (hn : n = IntKind.wrap .i64 ((rowP (ys.getD i [])).version + 1)) :
    splice (splice (rowsD ys) (i * 3 + 1) [.d (.sc (.string value))]) (i * 3 + 2) [.d (.sc (.int .i64 n))] = rowsD (setP ys i value) := by
  obtain ⟨p, hp⟩ := h.row (i := i) (by omega) (by omega)
  rw [Int.toNat_natCast] at hp
  have hl := take_len h.sz i (by omega)
  subst hn
  unfold setP
  rw [rowsD_set h.sz i hi, rowsD_cut h.sz i hi, hp, rowP_row]
  obtain ⟨a, ha⟩ : ∃ a, a = rowsD (ys.take i) := ⟨_, rfl⟩
  obtain ⟨b, hb⟩ : ∃ b, b = rowsD (ys.drop (i + 1)) := ⟨_, rfl⟩
  rw [← ha] at hl
  rw [← ha, ← hb]
  simp only [Pair.row, List.map_cons, List.map_nil, List.cons_append, List.nil_append]
  have e1 : ∀ (x y z w : DV), splice (a ++ x :: y :: z :: b) (i * 3 + 1) [w] = a ++ x :: w :: z :: b := by
    intro x y z w
    rw [splice, ← hl, List.take_append, List.drop_append]
    simp [List.take_of_length_le, show a.length + 1 + 1 - a.length = 2 by omega, List.drop_eq_nil_of_le (show a.length ≤ a.length + 1 + 1 by omega)]
  have e2 : ∀ (x y z w : DV), splice (a ++ x :: y :: z :: b) (i * 3 + 2) [w] = a ++ x :: y :: w :: b := by
    intro x y z w
    rw [splice, ← hl, List.take_append, List.drop_append]
    simp [List.take_of_length_le, show a.length + 2 + 1 - a.length = 3 by omega, List.drop_eq_nil_of_le (show a.length ≤ a.length + 2 + 1 by omega)]
  rw [e1, e2]
theorem setP_new {xs : List (List PD)} {i : Nat} (hi : i ≤ xs.length) (key value : ByteArray) : setP (xs.take i ++ [Pair.row ⟨key, none8, 0⟩] ++ xs.drop i) i value = newP xs i key value := by
  have hl : (xs.take i).length = i := by rw [List.length_take]; omega
  have hg : (xs.take i ++ [Pair.row ⟨key, none8, 0⟩] ++ xs.drop i).getD i [] = Pair.row ⟨key, none8, 0⟩ := by
    rw [List.getD_eq_getElem?_getD, List.append_assoc, List.getElem?_append_right (by omega), hl]
    simp
  unfold setP newP
  rw [hg, rowP_row, List.append_assoc, List.set_append_right _ _ (by omega), hl]
  simp [show IntKind.wrap .i64 (1 : Int) = 1 from rfl]
/-- The pair that is to be stored in stands in a row of one's own. -/
def PutF (cells : List DV) (m k : Nat) (value : ByteArray) (r : List (List PD)) : Prop := ∃ ys, cells = rowsD ys ∧ isP ys ∧ k < ys.length ∧ m = ys.length ∧ setP ys k value = r
theorem put_ins {xs : List (List PD)} (hp : isP xs) (hl : xs.length < 32) {k : Nat} (hk : k ≤ xs.length) (key value : ByteArray) {cs ics : List DV} {m m' : Nat} (hcs : cs = rowsD xs) (hm : m = xs.length)
    (h1 : ics = insR cs [.d (.sc (.string key)), .d (.sc (.string none8)), .d (.sc (.int .i64 0))] (k : Int)) (h2 : m' = m + 1) : PutF ics m' k value (newP xs k key value) := by
  subst hcs hm h1 h2
  refine ⟨xs.take k ++ [Pair.row ⟨key, none8, 0⟩] ++ xs.drop k, insR_rows hp.sz k hk (Pair.row ⟨key, none8, 0⟩), hp.ins (by omega) k _, ?_, ?_, setP_new hk key value⟩
  · simp only [List.length_append, List.length_take, List.length_drop, List.length_singleton]; omega
  · simp only [List.length_append, List.length_take, List.length_drop, List.length_singleton]; omega
theorem put_nil {k : Nat} (hk : k = 0) (key value : ByteArray) {ics : List DV} {m' : Nat} (h1 : ics = [.d (.sc (.string key)), .d (.sc (.string none8)), .d (.sc (.int .i64 0))]) (h2 : m' = 1) : PutF ics m' k value (newP [] k key value) := by
  subst hk h1 h2
  exact ⟨[Pair.row ⟨key, none8, 0⟩], rfl, ⟨[⟨key, none8, 0⟩], rfl, by simp⟩, by simp, by simp, setP_new (xs := []) (Nat.le_refl _) key value⟩
theorem PutF.isP {cells : List DV} {m k : Nat} {value : ByteArray} {r : List (List PD)} (h : PutF cells m k value r) : isP r := by
  obtain ⟨ys, _, h1, _, _, rfl⟩ := h
  exact h1.set _ _
theorem setP_len (ys : List (List PD)) (k : Nat) (value : ByteArray) : (setP ys k value).length = ys.length := by simp [setP]
theorem ret_slice2 {r : DV} {st : Store} {sz b ver n : Nat} {xs : List (List PD)} {bx : Box} {p : PD} (hb : st[b]? = some bx) (hl : bx.live = true) (hv : ver = bx.ver) (hn : n = xs.length) (hcells : bx.cells = rowsD xs) (hsz : ∀ x ∈ xs, x.length = sz) (hr : r = .tup [.d (.slc sz xs), .d p]) :
    RetW 0 (fun x st => st = [] ∧ pureD x = true ∧ x = r) (.tup [.view sz b ver 0 n, .d p]) st := by
  subst hv; subst hn; subst hr
  have h1 : TellsV 0 (.tup [.view sz b bx.ver 0 xs.length, .d p]) st (.tup [.d (.slc sz xs), .d p]) (fzSt b sz xs st) := TellsV.turn (Turn.freeze b sz xs bx hb hl (Nat.zero_le _) hcells hsz) (by simp [fzD, fzL])
  obtain ⟨d', st', h2, h3⟩ := ret_v (r := .tup [.d (.slc sz xs), .d p]) (d := .tup [.d (.slc sz xs), .d p]) (st := fzSt b sz xs st) rfl rfl
  exact ⟨d', st', TellsV.trans h1 h2, h3⟩
theorem load1 {l : List DV} {i : Nat} {d : DV} (h : l[i]? = some d) : i + 1 ≤ l.length ∧ List.take 1 (List.drop i l) = [d] := by
  have hl : i < l.length := (List.getElem?_eq_some_iff.1 h).1
  refine ⟨hl, ?_⟩
  rw [List.drop_eq_getElem_cons hl]
  simp [(List.getElem?_eq_some_iff.1 h).2]
theorem splice1_length (l : List DV) (i : Nat) (d : DV) (h : i + 1 ≤ l.length) : (splice l i [d]).length = l.length := by
  simp only [splice, List.length_append, List.length_take, List.length_drop, List.length_cons, List.length_nil]; omega
theorem upd2 {sz : Nat} {p : PD} : UpD (.tup [.d (.sc (.slice none 0 0)), .d p]) (.tup [.d (.slc sz []), .d p]) := by
  exact ⟨_, rfl, UpL.nil (UpL.keep UpL.done)⟩

structure FsH where
  put : List (List PD) → ByteArray → ByteArray → List (List PD) × Int
  isP : List (List PD) → Prop
def FsH0 : FsH where
  put := putX
  isP := isP
set_option maxRecDepth 100000 in
theorem v_put (xs : List (List PD)) (key : ByteArray) (value : ByteArray) (hp0 : FsH0.isP xs) : FnV Try.prog 9 [.d (.slc 3 xs), strD key, strD value] (.tup [.d (.slc 3 ((putX xs key value)).1), intD (((putX xs key value)).2)]) := by
  have hr := findX_range xs key
  have hsz := hp0.sz
  obtain ⟨GFsP, hGFsP⟩ : ∃ F, F = FsP0 := ⟨_, rfl⟩
  have hH : SoundK Try.prog [kn_find GFsP] := by subst hGFsP; exact orK_ok ok_find noK_ok
  refine FnD_cbv (T := fun _ => tabY [37, 38, 41, 42, 45, 46] []) (H := fun _ => [kn_find GFsP]) (tabY_ok _ _) hH follows_mixed Try.func9 rfl Try.ntmps9 (by simp) fun A X W hA hX hW => ?_
  clear hH
  cbv
  repeat' first
    | (refine part (fun h => ?_) (fun h => ?_) <;> try cbv)
    | (refine And.intro ?_ ?_)
  all_goals try
    refine callL hX ((w_clone xs hp0).mono ?_)
    rintro r st (⟨hx, rfl, rfl⟩ | ⟨v, m, cs, hcs, hm, rfl, rfl⟩) <;> cbv
  repeat' first
    | (refine part (fun h => ?_) (fun h => ?_) <;> try cbv)
    | (refine And.intro ?_ ?_)
  all_goals try
    refine callL hX ((w_insertN2 _ 0 _ rfl ?_).mono ?_)
    rotate_left
    rintro r st ⟨ics, m', v', hics, hm', hv', rfl, rfl⟩
    cbv
    rotate_left
  all_goals try
    refine callL hX ((w_ins2 cs _ m ((findX xs key).1.toNat) _ v 0 ?_ rfl ?_ ?_ ?_).mono ?_)
    rotate_left 4
    rintro r st ⟨ics, m', v', hics, hm', ⟨rfl, rfl⟩ | ⟨st0, rfl, rfl⟩⟩ <;> cbv
    rotate_left 2
  repeat' first
    | (refine part (fun h => ?_) (fun h => ?_) <;> try cbv)
    | (refine And.intro ?_ ?_)
  all_goals subst hA hX hW hGFsP
  all_goals try clear hH
  all_goals simp only [A0, nc, FsP0, Bool.not_eq_true', Bool.not_eq_false'] at *
  all_goals have e0 : xs = [] → (findX xs key).1 = 0 ∧ (findX xs key).2 = false := by rintro rfl; exact ⟨rfl, rfl⟩
  all_goals try unfold putX
  all_goals generalize findX xs key = q at *
  all_goals obtain ⟨i0, ok⟩ := q
  all_goals simp only at *
  all_goals obtain ⟨k, rfl⟩ : ∃ k : Nat, i0 = k := ⟨i0.toNat, by omega⟩
  all_goals have hk : k ≤ xs.length := by omega
  all_goals have hk2 : ok = true → k < xs.length := fun h => by have := hr.2.2 h; omega
  all_goals try simp only [Int.toNat_natCast, Nat.zero_add]
  all_goals first
    | assumption
    | (simp; done)
    | (simp_all; done)
    | skip
  all_goals first
    | (have hh := ‹ok = false›
       have hh2 := ‹(bif !ok then decide ((32 : Int) ≤ (xs.length : Int)) else false) = false›
       subst hh
       have hl : xs.length < 32 := by simp at hh2; omega
       have F : PutF ics m' k value (newP xs k key value) := by
         first
           | exact put_ins hp0 hl hk key value hcs hm hics hm'
           | (subst hx; exact put_nil (by have := (e0 rfl).1; omega) key value hics hm')
       obtain ⟨ys, hc, hpy, hky, hmy, hset⟩ := F
       have hL := put_load hpy k hky value
       have h3 := rowsD_len hpy.sz
       clear hics
       subst hc
       first
       | omega
       | (rw [splice1_length _ _ _ (by omega)]; omega)
       | (have hq := load1 hL
          simp only [hL]
          exact ⟨rfl, hq⟩)
       | (have hS := put_store hpy k hky value _ rfl
          rw [if_neg (by simp), if_neg (by omega)]
          refine ret_slice2 (xs := setP ys k value) rfl rfl rfl ?_ ?_ ?_ ?_
          · rw [setP_len]; exact hmy
          · simp only [hL]; exact hS
          · exact (hpy.set k _).sz
          · rw [hset]; rfl)
       | skip)
    | (have hh := ‹ok = true›
       subst hh
       have hky := hk2 rfl
       have hL := put_load hp0 k hky value
       have h3 := rowsD_len hp0.sz
       subst hcs hm
       first
       | omega
       | (rw [splice1_length _ _ _ (by omega)]; omega)
       | (have hq := load1 hL
          simp only [hL]
          exact ⟨rfl, hq⟩)
       | (have hS := put_store hp0 k hky value _ rfl
          rw [if_pos rfl]
          refine ret_slice2 (xs := setP xs k value) rfl rfl rfl ?_ ?_ ?_ ?_
          · rw [setP_len]
          · simp only [hL]; exact hS
          · exact (hp0.set k _).sz
          · rfl)
       | skip)
    | (subst hcs hm; rw [rowsD_len hp0.sz]; done)
    | (have hh := ‹ok = false›
       have hh2 := ‹(bif !ok then decide ((32 : Int) ≤ (xs.length : Int)) else false) = false›
       subst hh
       have hl : xs.length < 32 := by simp at hh2; omega
       omega)
    | (have hh := ‹(bif !ok then decide ((32 : Int) ≤ (xs.length : Int)) else false) = true›
       cases ok with
       | true => simp at hh
       | false =>
         have hl : 32 ≤ xs.length := by
           replace hh : decide ((32 : Int) ≤ (xs.length : Int)) = true := hh
           have := of_decide_eq_true hh
           omega
         refine ret_up ?_ ?_
         · rw [if_neg (by simp), if_pos hl]
           exact upd2
         · rfl)
def kn_put (F : FsH) : FuncId × (List DV → RV) := (9, fun args => match args with
  | [.d (.slc 3 xs), .d (.sc (.string key)), .d (.sc (.string value))] => some ([F.isP xs], .tup [.d (.slc 3 ((F.put xs key value)).1), intD (((F.put xs key value)).2)])
  | [.d (.sc (.slice none 0 0)), .d (.sc (.string key)), .d (.sc (.string value))] => some ([F.isP []], .tup [.d (.slc 3 ((F.put [] key value)).1), intD (((F.put [] key value)).2)])
  | _ => none)
theorem ok_put (args : List DV) (cs : List Prop) (r : DV) (h : (kn_put FsH0).2 args = some (cs, r)) (hc : allP cs True) : FnV Try.prog 9 args r ∧ closedL 0 args = true := by
  unfold kn_put at h
  simp only at h
  split at h
  · cases h; exact ⟨v_put _ _ _ hc.1, rfl⟩
  · cases h; exact ⟨FnP.nils (v_put [] _ _ hc.1) ⟨.inr ⟨rfl, _, rfl⟩, ⟨.inl rfl, ⟨.inl rfl, trivial⟩⟩⟩, rfl⟩
  · cases h
end Go.Proofs.Ytbceikkjogbgeaa
