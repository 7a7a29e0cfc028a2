/- Lists with room behind them: plain laws, for elements of any size. No condition. -/
import Derived.Test.YtbceikkjogbgeaaAm35
import Derived.Test.YtbceikkjogbgeaaKv7
import Derived.Test.YtbceikkjogbgeaaKvC
namespace Go.Proofs.Ytbceikkjogbgeaa
open Go.RowKit
set_option linter.all false
def roomG (xs : List (List PD)) (m : List PD) : List (List PD) := xs ++ List.replicate 80 m
/-- The cells, when so many places of the room are marked. -/
def roomCg (xs : List (List PD)) (m z : List PD) (k : Nat) : List DV := rowsD xs ++ (rowsD (List.replicate k m) ++ rowsD (List.replicate (80 - k) z))
theorem told_stG {k : Nat} {s s' : SL} {st st' : Store} (h : st = st') (hs : toldP id s s') : Told k s st s' st' := by subst h; exact told_less hs
theorem rowsD_repl (n : Nat) (m : List PD) : (rowsD (List.replicate n m)).length = n * m.length := by
  induction n with
  | zero => simp [rowsD]
  | succ n ih =>
    have e : rowsD (List.replicate (n + 1) m) = m.map .d ++ rowsD (List.replicate n m) := by simp [rowsD, List.replicate_succ]
    rw [e, List.length_append, ih, List.length_map, Nat.add_mul]
    omega
theorem rowsD_flat (n : Nat) (m : List PD) : (List.replicate n (m.map DV.d)).flatten = rowsD (List.replicate n m) := by
  induction n with
  | zero => rfl
  | succ n ih => rw [List.replicate_succ, List.flatten_cons, ih]; simp [rowsD, List.replicate_succ]
theorem roomG_0 {xs : List (List PD)} {m z : List PD} (h : (rowsD xs).length = xs.length * z.length) : splice (List.replicate (xs.length + 80) (z.map DV.d)).flatten 0 (rowsD xs) = roomCg xs m z 0 := by
  rw [rowsD_flat, splice, roomCg, List.take_zero, List.nil_append, h]
  have e : rowsD (List.replicate (xs.length + 80) z) = rowsD (List.replicate xs.length z) ++ rowsD (List.replicate 80 z) := by rw [← rowsD_append, List.replicate_append_replicate]
  rw [e, List.drop_append_of_le_length (by rw [rowsD_repl]; omega), List.drop_eq_nil_of_le (by rw [rowsD_repl]; omega)]
  simp [rowsD]
theorem roomG_S {xs : List (List PD)} {m z : List PD} {k sz : Nat} (h : (rowsD xs).length = xs.length * sz) (hm : m.length = sz) (hz : z.length = sz) (hk : k < 80) : splice (roomCg xs m z k) ((xs.length + k) * sz) (m.map DV.d) = roomCg xs m z (k + 1) := by
  have e1 : rowsD (List.replicate (80 - k) z) = z.map .d ++ rowsD (List.replicate (80 - (k + 1)) z) := by
    rw [show 80 - k = (80 - (k + 1)) + 1 by omega, List.replicate_succ]
    simp [rowsD]
  have e2 : rowsD (List.replicate (k + 1) m) = rowsD (List.replicate k m) ++ m.map .d := by
    rw [List.replicate_succ', rowsD_append]
    simp [rowsD]
  have e3 : (rowsD xs ++ rowsD (List.replicate k m)).length = (xs.length + k) * sz := by rw [List.length_append, h, rowsD_repl, hm, ← Nat.add_mul]
  rw [roomCg, roomCg, e1, e2, ← List.append_assoc, splice, ← e3, List.take_left, List.drop_append, List.drop_eq_nil_of_le (by omega)]
  rw [show (rowsD xs ++ rowsD (List.replicate k m)).length + (m.map DV.d).length - (rowsD xs ++ rowsD (List.replicate k m)).length = (z.map DV.d).length by simp [hm, hz], List.drop_left]
  simp
theorem roomG_len {xs : List (List PD)} {m z : List PD} {k sz : Nat} (h : (rowsD xs).length = xs.length * sz) (hm : m.length = sz) (hz : z.length = sz) (hk : k ≤ 80) : (roomCg xs m z k).length = (xs.length + 80) * sz := by
  simp only [roomCg, List.length_append, rowsD_repl, h, hm, hz]
  rw [← Nat.add_mul, ← Nat.add_mul]
  congr 1
  omega
theorem roomG_E {xs : List (List PD)} {m z : List PD} : roomCg xs m z 80 = rowsD (roomG xs m) := by
  simp [roomCg, roomG, rowsD_append, rowsD]
def roomPg (full xs : List (List PD)) (m : List PD) : Prop := full = roomG xs m
theorem roomG_row {xs : List (List PD)} {m : List PD} {i : Int} (h0 : (xs.length : Int) ≤ i) (h1 : i < xs.length + 80) : (roomG xs m).getD i.toNat [] = m := by
  rw [roomG, List.getD_eq_getElem?_getD, List.getElem?_append_right (by omega), List.getElem?_replicate, if_pos (by omega)]
  rfl
theorem roomG_length (xs : List (List PD)) (m : List PD) : (roomG xs m).length = xs.length + 80 := by simp [roomG]
theorem roomG_take (xs : List (List PD)) (m : List PD) : (roomG xs m).take xs.length = xs := by simp [roomG]
theorem roomG_sz {xs : List (List PD)} {m : List PD} {sz : Nat} (h : ∀ x ∈ xs, x.length = sz) (hm : m.length = sz) : ∀ x ∈ roomG xs m, x.length = sz := by
  intro x hx
  simp only [roomG, List.mem_append, List.mem_replicate] at hx
  rcases hx with hx | ⟨_, rfl⟩
  · exact h x hx
  · exact hm
end Go.Proofs.Ytbceikkjogbgeaa
namespace Go.Proofs.Ytbceikkjogbgeaa
open Go.RowKit
set_option linter.all false
set_option maxHeartbeats 4000000

structure FsE where
  findR : List (List PD) → ByteArray → Int × Bool
  getR : List (List PD) → ByteArray → Pair × Bool
  hasR : Span → ByteArray → Bool
  isP : List (List PD) → Prop
def FsE0 : FsE where
  findR := findX
  getR := getP
  hasR := hasS
  isP := isP
set_option maxRecDepth 100000 in
theorem v_findR (xs : List (List PD)) (key : ByteArray) (hp0 : FsE0.isP xs) : FnV Try.prog 29 [.d (.slc 3 xs), strD key] (.tup [intD (((findX xs key)).1), boolD (((findX xs key)).2)]) := by
  obtain ⟨ps, hxs, hl⟩ := hp0
  have hlen : xs.length = ps.length := by rw [hxs]; exact pairsX_length ps
  have hof : findX xs key = findL key ps 0 := by rw [findX, hxs, pairsOf_X ps]
  obtain ⟨n, hn⟩ : ∃ n : Int, n = ps.length := ⟨_, rfl⟩
  rw [hof]
  obtain ⟨q, hq⟩ : ∃ q, q = findL key ps 0 := ⟨_, rfl⟩
  rw [← hq]
  refine FnD_cbv (T := fun _ => tabY [15, 16, 23, 24] []) (H := fun _ => []) (tabY_ok _ _) noK_ok follows_mixed Try.func29 rfl Try.ntmps29 (by simp) fun A X W hA hX hW => ?_
  cbv
  replace hn : n = (ps.length : Int) := hn
  refine loopL (T := fun _ => tabY [15, 16, 23, 24] []) (H := fun _ => []) (tabY_ok _ _) noK_ok follows_mixed hA hX (fun x : Int => (0 ≤ x ∧ x ≤ n) ∧ q = findL key (ps.drop x.toNat) x)
    (fun x => [(0, .d (.slc 3 xs)), (1, .d (.sc (.string key))), (6, .d (.sc (.int .i64 x)))]) (fun _ => [])
    (fun x => n.toNat - x.toNat) 0 ?_ ?_ ?_
  · exact ⟨⟨by omega, by omega⟩, hq⟩
  · subst hA; exact told_less (by simp [toldP, getS, A0, hn, hlen])
  rintro R i hR ⟨hi, i2⟩
  cbv
  repeat' first
    | (refine part (fun h => ?_) (fun h => ?_) <;> try cbv)
    | (refine And.intro ?_ ?_)
  all_goals subst hA hX hW hR
  all_goals simp only [A0, nc, decide_eq_true_eq, decide_eq_false_iff_not, Bool.not_eq_true', Bool.not_eq_false'] at *
  all_goals try replace hi : 0 ≤ i ∧ i ≤ n := hi
  all_goals replace hn : n = (ps.length : Int) := hn
  all_goals have ei : IntKind.wrap .i64 (i + 1) = i + 1 := wrap_i64 (by unfold r64; omega)
  all_goals try
    have hlt : i < ps.length := by omega
    have hrow := prow hxs hi.1 hlt
    have hd := pdrop hi.1 hlt
    generalize ps[i.toNat]'(by omega) = p at hrow hd
    rw [hd] at i2
    simp only [hrow, Pair.row, List.map_cons, List.map_nil, Nat.zero_add, List.getElem?_cons_zero, List.getElem?_cons_succ] at *
  all_goals first
    | rfl
    | (show Region.lexB _ _ = true; kernel_rfl)
    | (show turnsB _ = true; kernel_rfl)
    | omega
    | (refine ⟨by omega, by omega⟩)
    | (simp; done)
    | (intros; first | assumption | trivial | (simp_all; done))
    | (have hk : ltb p.key key = true := by assumption
       have hk2 : findL key (p :: ps.drop (i + 1).toNat) i = findL key (ps.drop (i + 1).toNat) (i + 1) := by rw [findL, if_pos hk]
       rw [hk2] at i2
       refine ⟨i + 1, ⟨⟨by omega, by omega⟩, i2⟩, by omega, told_keep [] rfl rfl ?_⟩
       simp [toldP, getS, pullD, ei]
       done)
    | (have hk : ltb p.key key = false := by assumption
       have hk2 : findL key (p :: ps.drop (i + 1).toNat) i = (i, decide (p.key = key)) := by rw [findL, if_neg (by simp [hk])]
       rw [hk2] at i2
       refine ret_v ?_ rfl
       rw [i2]
       rfl)
    | (rw [show i.toNat = ps.length by omega, List.drop_length] at i2
       refine ret_v ?_ rfl
       rw [i2]
       simp only [findL, hlen, boolD, intD]
       rw [show i = (ps.length : Int) by omega]
       done)
    | (refine ret_v ?_ rfl
       rw [show i.toNat = ps.length by omega, List.drop_length] at i2
       rw [i2]
       simp only [findL, boolD, intD]
       rw [show i = (xs.length : Int) by omega]
       done)
def kn_findR (F : FsE) : FuncId × (List DV → RV) := (29, fun args => match args with
  | [.d (.slc 3 xs), .d (.sc (.string key))] => some ([F.isP xs], .tup [intD (((F.findR xs key)).1), boolD (((F.findR xs key)).2)])
  | [.d (.sc (.slice none 0 0)), .d (.sc (.string key))] => some ([F.isP []], .tup [intD (((F.findR [] key)).1), boolD (((F.findR [] key)).2)])
  | _ => none)
theorem ok_findR (args : List DV) (cs : List Prop) (r : DV) (h : (kn_findR FsE0).2 args = some (cs, r)) (hc : allP cs True) : FnV Try.prog 29 args r ∧ closedL 0 args = true := by
  unfold kn_findR at h
  simp only at h
  split at h
  · cases h; exact ⟨v_findR _ _ hc.1, rfl⟩
  · cases h; exact ⟨FnP.nils (v_findR [] _ hc.1) ⟨.inr ⟨rfl, _, rfl⟩, ⟨.inl rfl, trivial⟩⟩, rfl⟩
  · cases h
set_option maxRecDepth 100000 in
theorem v_getR (xs : List (List PD)) (key : ByteArray) (hp0 : FsE0.isP xs) : FnV Try.prog 19 [.d (.slc 3 xs), strD key] (.tup [Pair.D (((getP xs key)).1), boolD (((getP xs key)).2)]) := by
  have hr := findX_range xs key
  obtain ⟨F, hF⟩ : ∃ F, F = FsE0 := ⟨_, rfl⟩
  have hH : SoundK Try.prog [kn_findR F] := by subst hF; exact orK_ok ok_findR noK_ok
  refine FnD_cbv (T := fun _ => tabY [19] []) (H := fun _ => [kn_findR F]) (tabY_ok _ _) hH follows_mixed Try.func19 rfl Try.ntmps19 (by simp) fun A X W hA hX hW => ?_
  clear hH
  cbv
  repeat' first
    | (refine part (fun h => ?_) (fun h => ?_) <;> try cbv)
    | (refine And.intro ?_ ?_)
  all_goals subst hA hX hW hF
  all_goals try (show Region.lexB _ _ = true; kernel_rfl)
  all_goals try (show turnsB _ = true; kernel_rfl)
  all_goals simp only [A0, FsE0, decide_eq_true_eq, decide_eq_false_iff_not, Bool.not_eq_true', Bool.not_eq_false'] at *
  all_goals first
    | assumption
    | (refine ret_v ?_ rfl
       simp [getP, getX, thereX, *, Pair.D, boolD]
       done)
    | (have h := ‹(findX xs key).snd = true›
       obtain ⟨p, hp⟩ := hp0.row hr.1 (hr.2.2 h)
       first
         | exact ⟨hr.1, hr.2.2 h⟩
         | (rw [hp]; simp [Pair.row]; done)
         | (have hg : getP xs key = (p, true) := by
              unfold getP getX thereX
              rw [if_pos h, hp, h]; rfl
            refine ret_v ?_ rfl
            rw [hp, hg]
            simp [Pair.D, Pair.row, boolD]
            done))

def kn_getR (F : FsE) : FuncId × (List DV → RV) := (19, fun args => match args with
  | [.d (.slc 3 xs), .d (.sc (.string key))] => some ([F.isP xs], .tup [Pair.D (((F.getR xs key)).1), boolD (((F.getR xs key)).2)])
  | [.d (.sc (.slice none 0 0)), .d (.sc (.string key))] => some ([F.isP []], .tup [Pair.D (((F.getR [] key)).1), boolD (((F.getR [] key)).2)])
  | _ => none)
theorem ok_getR (args : List DV) (cs : List Prop) (r : DV) (h : (kn_getR FsE0).2 args = some (cs, r)) (hc : allP cs True) : FnV Try.prog 19 args r ∧ closedL 0 args = true := by
  unfold kn_getR at h
  simp only at h
  split at h
  · cases h; exact ⟨v_getR _ _ hc.1, rfl⟩
  · cases h; exact ⟨FnP.nils (v_getR [] _ hc.1) ⟨.inr ⟨rfl, _, rfl⟩, ⟨.inl rfl, trivial⟩⟩, rfl⟩
  · cases h
set_option maxRecDepth 100000 in
theorem v_hasR (s : Span) (k : ByteArray) : FnV Try.prog 30 [Span.D s, strD k] (boolD ((hasS s k))) := by
  obtain ⟨s_lo, s_hi⟩ := s
  refine FnD_cbv (T := fun _ => tabY [] []) (H := fun _ => []) (tabY_ok _ _) noK_ok follows_mixed Try.func30 rfl Try.ntmps30 (by simp) fun A X W hA hX hW => ?_
  cbv
  repeat' first
    | (refine part (fun h => ?_) (fun h => ?_) <;> try cbv)
    | (refine And.intro ?_ ?_)
  all_goals subst hA hX hW
  all_goals try (show Region.lexB _ _ = true; kernel_rfl)
  all_goals try (show turnsB _ = true; kernel_rfl)
  all_goals simp only [A0, FsE0, decide_eq_true_eq, decide_eq_false_iff_not, Bool.not_eq_true', Bool.not_eq_false'] at *
  all_goals first
    | (refine ret_v ?_ rfl
       first
         | rfl
         | (simp_all [hasS, Span.D, boolD, intD, strD]; done)
         | (simp_all [hasS, Span.D, boolD, intD, strD]; rfl)
         | (simp only [hasS, Span.D, boolD, intD, strD] at *; congr 3; grind)
         | (simp only [hasS, Span.D, boolD, intD, strD] at *; grind))
    | (intros; simp_all [bytes1, maxLen]; done)
    | (intros; simp only [bytes1, maxLen] at *; omega)
    | grind
def kn_hasR (F : FsE) : FuncId × (List DV → RV) := (30, fun args => match args with
  | [.agg [.d (.sc (.string s_lo)), .d (.sc (.string s_hi))], .d (.sc (.string k))] => some ([], boolD ((F.hasR ⟨s_lo, s_hi⟩ k)))
  | _ => none)
theorem ok_hasR (args : List DV) (cs : List Prop) (r : DV) (h : (kn_hasR FsE0).2 args = some (cs, r)) (hc : allP cs True) : FnV Try.prog 30 args r ∧ closedL 0 args = true := by
  unfold kn_hasR at h
  simp only at h
  split at h
  · cases h; exact ⟨v_hasR ⟨_, _⟩ _, rfl⟩
  · cases h
end Go.Proofs.Ytbceikkjogbgeaa
namespace Go.Proofs.Ytbceikkjogbgeaa
open Go.RowKit
set_option linter.all false
set_option maxHeartbeats 4000000

def rgS2 (xs : List (List PD)) : Int → Option (List DV × Nat × Nat) → SL
  | i, none => [(0, .d (.slc 3 xs)), (3, .ref 0 0 0), (6, .d (.sc (.slice none 0 0))), (7, .d (.sc (.int .i64 i)))]
  | i, some (_, v, m) => [(0, .d (.slc 3 xs)), (3, .ref 0 0 0), (6, .view 3 1 v 0 m), (7, .d (.sc (.int .i64 i)))]

structure FsF where
  rangeR : List (List PD) → Span → List (List PD) × Bool
  isP : List (List PD) → Prop
def FsF0 : FsF where
  rangeR := rangeX
  isP := isP
set_option maxRecDepth 100000 in
theorem v_rangeR (xs : List (List PD)) (s : Span) (hp0 : FsF0.isP xs) : FnV Try.prog 22 [.d (.slc 3 xs), Span.D s] (.tup [.d (.slc 3 ((rangeX xs s)).1), boolD (((rangeX xs s)).2)]) := by
  obtain ⟨s_lo, s_hi⟩ := s
  obtain ⟨ps, hxs, hl⟩ := hp0
  have hlen : xs.length = ps.length := by rw [hxs]; exact pairsX_length ps
  have hof : pairsOf xs = ps := by rw [hxs]; exact pairsOf_X ps
  obtain ⟨n, hn⟩ : ∃ n : Int, n = ps.length := ⟨_, rfl⟩
  unfold rangeX
  rw [hof]
  obtain ⟨q, hq⟩ : ∃ q, q = rangeL ⟨s_lo, s_hi⟩ ps [] := ⟨_, rfl⟩
  rw [← hq]
  obtain ⟨GFsE, hGFsE⟩ : ∃ F, F = FsE0 := ⟨_, rfl⟩
  have hH : SoundK Try.prog [kn_hasR GFsE] := by subst hGFsE; exact orK_ok ok_hasR noK_ok
  refine FnD_cbv (T := fun _ => tabY [17, 18, 29] []) (H := fun _ => [kn_hasR GFsE]) (tabY_ok _ _) hH follows_mixed Try.func22 rfl Try.ntmps22 (by simp) fun A X W hA hX hW => ?_
  cbv
  replace hn : n = (ps.length : Int) := hn
  refine loopL (T := fun _ => tabY [17, 18, 29] []) (H := fun _ => [kn_hasR GFsE]) (tabY_ok _ _) hH follows_mixed hA hX (fun x : Int × List Pair × Option (List DV × Nat × Nat) => (0 ≤ x.1 ∧ x.1 ≤ n) ∧ q = rangeL ⟨s_lo, s_hi⟩ (ps.drop x.1.toNat) x.2.1 ∧ x.2.1.length ≤ 8 ∧ rgI x.2.1 x.2.2)
    (fun x => rgS2 xs x.1 x.2.2) (fun x => rgT ⟨s_lo, s_hi⟩ x.2.2)
    (fun x => n.toNat - x.1.toNat) (0, [], none) ?_ ?_ ?_
  · exact ⟨⟨by omega, by omega⟩, hq, by simp, rfl⟩
  · subst hA; exact told_less (by simp [toldP, getS, A0, hn, hlen, rgS2])
  rintro R ⟨i, acc, o⟩ hR ⟨hi, i2, i3, i4⟩
  replace hi : 0 ≤ i ∧ i ≤ n := hi
  replace i2 : q = rangeL ⟨s_lo, s_hi⟩ (ps.drop i.toNat) acc := i2
  replace i3 : acc.length ≤ 8 := i3
  have i5 : o = none ∧ acc = [] ∨ ∃ cs v m, o = some (cs, v, m) ∧ cs = rowsD (pairsX acc) ∧ m = acc.length := by
    rcases o with _ | ⟨cs, v, m⟩
    · exact .inl ⟨rfl, i4⟩
    · exact .inr ⟨cs, v, m, rfl, i4⟩
  clear i4
  rcases i5 with ⟨rfl, i4⟩ | ⟨cs, v, m, rfl, hcs, hm⟩ <;>
  cbv
  all_goals
    repeat' first
      | (refine part (fun h => ?_) (fun h => ?_) <;> try cbv)
      | (refine And.intro ?_ ?_)
  all_goals subst hA hX hW hR
  all_goals try clear hH
  all_goals simp only [A0, nc, decide_eq_true_eq, decide_eq_false_iff_not, Bool.not_eq_true', Bool.not_eq_false'] at *
  all_goals try replace hi : 0 ≤ i ∧ i ≤ n := hi
  all_goals replace hn : n = (ps.length : Int) := hn
  all_goals have ei : IntKind.wrap .i64 (i + 1) = i + 1 := wrap_i64 (by unfold r64; omega)
  all_goals try
    have hlt : i < ps.length := by omega
    have hrow := prow hxs hi.1 hlt
    have hd := pdrop hi.1 hlt
    generalize ps[i.toNat]'(by omega) = p at hrow hd
    rw [hd] at i2
    simp only [hrow, Pair.row, List.map_cons, List.map_nil, Nat.zero_add, List.getElem?_cons_zero, List.getElem?_cons_succ] at *
  all_goals first
    | rfl
    | (show Region.lexB _ _ = true; kernel_rfl)
    | (show turnsB _ = true; kernel_rfl)
    | omega
    | (refine ⟨by omega, by omega⟩)
    | (simp; done)
    | (intros; first | assumption | trivial | (simp_all; done))
    | (have h4 := ‹GFsE.hasR ⟨s_lo, s_hi⟩ p.key = false›
       subst hGFsE
       have h5 : hasS ⟨s_lo, s_hi⟩ p.key = false := h4
       rw [rangeL, if_neg (by rw [h5]; simp)] at i2
       first
         | (subst i4
            refine ⟨(i + 1, [], none), ⟨⟨by show (0 : Int) ≤ i + 1; omega, by show i + 1 ≤ n; omega⟩, i2, i3, rfl⟩, by show n.toNat - (i + 1).toNat < n.toNat - i.toNat; omega, told_keep [0] rfl rfl ?_⟩
            simp [toldP, getS, rgS2, pullD, ei]
            done)
         | (refine ⟨(i + 1, acc, some (cs, v, m)), ⟨⟨by show (0 : Int) ≤ i + 1; omega, by show i + 1 ≤ n; omega⟩, i2, i3, hcs, hm⟩, by show n.toNat - (i + 1).toNat < n.toNat - i.toNat; omega, told_keep [0, 1] rfl ?_ ?_⟩
            · simp [keepSt, pullBox, pullL_eq, hcs, pull_rows, pullD, rgT]
            · simp [toldP, getS, rgS2, pullD, ei]))
    | (have h4 := ‹GFsE.hasR ⟨s_lo, s_hi⟩ p.key = true›
       subst hGFsE
       have h5 : hasS ⟨s_lo, s_hi⟩ p.key = true := h4
       rw [rangeL, if_pos h5] at i2
       have hr : rowsD (pairsX [p]) = [.d (.sc (.string p.key)), .d (.sc (.string p.value)), .d (.sc (.int .i64 p.version))] := rfl
       first
         | (subst i4
            rw [if_neg (by simp)] at i2
            refine ⟨(i + 1, [p], some (rowsD (pairsX [p]), 0, 1)), ⟨⟨by show (0 : Int) ≤ i + 1; omega, by show i + 1 ≤ n; omega⟩, i2, by simp, rfl, rfl⟩, by show n.toNat - (i + 1).toNat < n.toNat - i.toNat; omega, told_keep [0, 2] rfl ?_ ?_⟩
            · simp [keepSt, pullBox, pullL_eq, pullD, rgT, hr]
            · simp [toldP, getS, rgS2, pullD, ei])
         | (have h8 := ‹(m : Int) = 8›
            rw [if_pos (by omega)] at i2
            rw [i2]
            exact ret_slice2 (xs := pairsX acc) rfl rfl rfl (by rw [hm, pairsX_length]) hcs (isP.sz ⟨acc, rfl, by omega⟩) rfl)
         | (have h8 := ‹¬ (m : Int) = 8›
            rw [if_neg (by omega)] at i2
            refine ⟨(i + 1, acc ++ [p], some (cs ++ rowsD (pairsX [p]), v + 1, m + 1)), ⟨⟨by show (0 : Int) ≤ i + 1; omega, by show i + 1 ≤ n; omega⟩, i2, by show (acc ++ [p]).length ≤ 8; rw [List.length_append, List.length_singleton]; omega, by rw [hcs, ← rowsD_append]; simp [pairsX], by rw [hm]; simp⟩, by show n.toNat - (i + 1).toNat < n.toNat - i.toNat; omega, told_keep [0, 1] rfl ?_ ?_⟩
            · simp [keepSt, pullBox, pullL_eq, pullD, rgT, hr, hcs, pull_rows]
            · simp [toldP, getS, rgS2, pullD, ei]))
    | (rw [hcs, rowsD_len (isP.sz ⟨acc, rfl, by omega⟩), hm, pairsX_length]
       done)
    | (rw [show i.toNat = ps.length by omega, List.drop_length] at i2
       rw [i2]
       first
         | (subst i4; exact ret_up upd2 rfl)
         | exact ret_slice2 (xs := pairsX acc) rfl rfl rfl (by rw [hm, pairsX_length]) hcs (isP.sz ⟨acc, rfl, by omega⟩) rfl)
    | skip
  · subst i4
    subst hGFsE
    have h5 : hasS ⟨s_lo, s_hi⟩ p.key = true := h
    rw [rangeL, if_pos h5, if_neg (by simp)] at i2
    have hr : rowsD (pairsX [p]) = [.d (.sc (.string p.key)), .d (.sc (.string p.value)), .d (.sc (.int .i64 p.version))] := rfl
    refine ⟨(i + 1, [p], some (rowsD (pairsX [p]), 0, 1)), ⟨⟨by show (0 : Int) ≤ i + 1; omega, by show i + 1 ≤ n; omega⟩, i2, by simp, rfl, rfl⟩, by show n.toNat - (i + 1).toNat < n.toNat - i.toNat; omega, told_keep [0, 2] rfl ?_ ?_⟩
    · simp [keepSt, pullBox, pullL_eq, pullD, rgT, hr]
    · simp [toldP, getS, rgS2, pullD, ei]
      exact ⟨rfl, rfl⟩
  · subst hGFsE
    have h5 : hasS ⟨s_lo, s_hi⟩ p.key = false := h
    rw [rangeL, if_neg (by rw [h5]; simp)] at i2
    refine ⟨(i + 1, acc, some (cs, v, m)), ⟨⟨by show (0 : Int) ≤ i + 1; omega, by show i + 1 ≤ n; omega⟩, i2, i3, hcs, hm⟩, by show n.toNat - (i + 1).toNat < n.toNat - i.toNat; omega, told_keep [0, 1] rfl ?_ ?_⟩
    · simp [keepSt, pullBox, pullL_eq, hcs, pull_rows, pullD, rgT]
    · simp [toldP, getS, rgS2, pullD, ei]
      exact ⟨rfl, rfl⟩
  · subst hGFsE
    have h5 : hasS ⟨s_lo, s_hi⟩ p.key = true := h
    have h8 := ‹¬ (m : Int) = 8›
    rw [rangeL, if_pos h5, if_neg (by omega)] at i2
    have hr : rowsD (pairsX [p]) = [.d (.sc (.string p.key)), .d (.sc (.string p.value)), .d (.sc (.int .i64 p.version))] := rfl
    refine ⟨(i + 1, acc ++ [p], some (cs ++ rowsD (pairsX [p]), v + 1, m + 1)), ⟨⟨by show (0 : Int) ≤ i + 1; omega, by show i + 1 ≤ n; omega⟩, i2, by show (acc ++ [p]).length ≤ 8; rw [List.length_append, List.length_singleton]; omega, by rw [hcs, ← rowsD_append]; simp [pairsX], by rw [hm]; simp⟩, by show n.toNat - (i + 1).toNat < n.toNat - i.toNat; omega, told_keep [0, 1] rfl ?_ ?_⟩
    · simp [keepSt, pullBox, pullL_eq, pullD, rgT, hr, hcs, pull_rows]
    · simp [toldP, getS, rgS2, pullD, ei]
      exact ⟨rfl, rfl⟩
def kn_rangeR (F : FsF) : FuncId × (List DV → RV) := (22, fun args => match args with
  | [.d (.slc 3 xs), .agg [.d (.sc (.string s_lo)), .d (.sc (.string s_hi))]] => some ([F.isP xs], .tup [.d (.slc 3 ((F.rangeR xs ⟨s_lo, s_hi⟩)).1), boolD (((F.rangeR xs ⟨s_lo, s_hi⟩)).2)])
  | [.d (.sc (.slice none 0 0)), .agg [.d (.sc (.string s_lo)), .d (.sc (.string s_hi))]] => some ([F.isP []], .tup [.d (.slc 3 ((F.rangeR [] ⟨s_lo, s_hi⟩)).1), boolD (((F.rangeR [] ⟨s_lo, s_hi⟩)).2)])
  | _ => none)
theorem ok_rangeR (args : List DV) (cs : List Prop) (r : DV) (h : (kn_rangeR FsF0).2 args = some (cs, r)) (hc : allP cs True) : FnV Try.prog 22 args r ∧ closedL 0 args = true := by
  unfold kn_rangeR at h
  simp only at h
  split at h
  · cases h; exact ⟨v_rangeR _ ⟨_, _⟩ hc.1, rfl⟩
  · cases h; exact ⟨FnP.nils (v_rangeR [] ⟨_, _⟩ hc.1) ⟨.inr ⟨rfl, _, rfl⟩, ⟨.inl rfl, trivial⟩⟩, rfl⟩
  · cases h
end Go.Proofs.Ytbceikkjogbgeaa
namespace Go.Proofs.Ytbceikkjogbgeaa
open Go.RowKit
set_option linter.all false
set_option maxHeartbeats 4000000

structure FsG2 where
  putR : List (List PD) → ByteArray → ByteArray → List (List PD) × Int
  delR : List (List PD) → ByteArray → List (List PD) × Bool
  isP : List (List PD) → Prop
def FsG20 : FsG2 where
  putR := putX
  delR := delX
  isP := isP
set_option maxRecDepth 100000 in
theorem v_putR (xs : List (List PD)) (key : ByteArray) (value : ByteArray) (hp0 : FsG20.isP xs) : FnV Try.prog 20 [.d (.slc 3 xs), strD key, strD value] (.tup [.d (.slc 3 ((putX xs key value)).1), intD (((putX xs key value)).2)]) := by
  have hr := findX_range xs key
  have hsz := hp0.sz
  obtain ⟨GFsE, hGFsE⟩ : ∃ F, F = FsE0 := ⟨_, rfl⟩
  have hH : SoundK Try.prog [kn_findR GFsE] := by subst hGFsE; exact orK_ok ok_findR noK_ok
  refine FnD_cbv (T := fun _ => tabY [31, 32, 35, 36, 39, 40] [9]) (H := fun _ => [kn_findR GFsE]) (tabY_ok _ _) hH follows_mixed Try.func20 rfl Try.ntmps20 (by simp) fun A X W hA hX hW => ?_
  cbv
  repeat' first
    | (refine part (fun h => ?_) (fun h => ?_) <;> try cbv)
    | (refine And.intro ?_ ?_)
  all_goals try ((with_reducible refine regionL [1000001] [] (T := fun _ => tabY [31,32,35,36,39,40] []) (H := fun _ => [kn_findR GFsE]) (B := fun _ => []) (R := fun _ => []) (A := A) (tabY_ok _ _) hH noB_ok noR_ok follows_mixed hA hX (by kernel_rfl) (by kernel_rfl) (by kernel_rfl) ?_) <;> cbv)
  repeat' first
    | (refine part (fun h => ?_) (fun h => ?_) <;> try cbv)
    | (refine And.intro ?_ ?_)
  all_goals first
    | (subst hA hX hW hGFsE
       clear hH
       simp only [A0, nc, FsE0] at *
       first
         | (show Region.lexB _ _ = true; kernel_rfl)
         | (show turnsB _ = true; kernel_rfl)
         | assumption
         | (intros; first | assumption | trivial | omega | (simp_all; done))
         | (refine ⟨by omega, by omega⟩))
    | skip
  all_goals subst hA hX hW hGFsE
  all_goals clear hH
  all_goals simp only [A0, nc, FsE0] at *
  all_goals have hl := hp0.len
  all_goals try unfold putX
  all_goals generalize findX xs key = q at *
  all_goals obtain ⟨i0, ok⟩ := q
  all_goals simp only at *
  all_goals obtain ⟨k, rfl⟩ : ∃ k : Nat, i0 = k := ⟨i0.toNat, by omega⟩
  all_goals have hk : k ≤ xs.length := by omega
  all_goals have ed : List.take (xs.length - k) (List.drop k xs) = List.drop k xs := List.take_of_length_le (by simp)
  all_goals simp only [Int.toNat_natCast, Int.toNat_zero, Nat.sub_zero, List.drop_zero, List.nil_append, Nat.zero_add, ed] at *
  all_goals first
    | (have hh := ‹ok = true›
       subst hh
       have hky : k < xs.length := by have := hr.2.2 rfl; omega
       have hL := put_load hp0 k hky value
       have h3 := rowsD_len hsz
       first
       | omega
       | (rw [splice1_length _ _ _ (by omega)]; omega)
       | (have hq := load1 hL
          simp only [hL]
          exact ⟨rfl, hq⟩)
       | (have hS := put_store hp0 k hky value _ rfl
          rw [if_pos rfl]
          refine ret_slice2 (xs := setP xs k value) rfl rfl rfl ?_ ?_ ?_ ?_
          · rw [setP_len]
          · simp only [hL]; exact hS
          · exact (hp0.set k _).sz
          · rfl))
    | omega
    | (simp only [List.length_append, List.length_take, List.length_drop, List.length_singleton]; omega)
    | exact rowsD_len fun y hy => hsz y (List.mem_of_mem_take hy)
    | (simp only [rowsD_append, List.length_append, rowsD_len (fun y hy => hsz y (List.mem_of_mem_take hy))]; simp [rowsD]; omega)
    | (cases ok with
       | true => simp at *
       | false =>
         have h2 := h
         simp only [Bool.not_false, cond_true, decide_eq_true_eq] at h2
         have hl : 32 ≤ xs.length := by omega
         rw [if_neg (by simp), if_pos hl]
         exact ret_up upd2 rfl)
    | (cases ok with
       | true => simp at *
       | false =>
         have h2 := ‹(bif !false then decide ((32 : Int) ≤ (xs.length : Int)) else false) = false›
         simp only [Bool.not_false, cond_true, decide_eq_false_iff_not] at h2
         have hl : xs.length < 32 := by omega
         rw [if_neg (by simp), if_neg (by omega)]
         refine ret_slice2 (xs := newP xs k key value) rfl rfl rfl ?_ ?_ (hp0.ins (by omega) k ⟨key, value, 1⟩).sz rfl
         · simp only [newP, List.length_append]; rfl
         · simp only [newP, rowsD_append]; rfl)
    | skip

def kn_putR (F : FsG2) : FuncId × (List DV → RV) := (20, fun args => match args with
  | [.d (.slc 3 xs), .d (.sc (.string key)), .d (.sc (.string value))] => some ([F.isP xs], .tup [.d (.slc 3 ((F.putR xs key value)).1), intD (((F.putR xs key value)).2)])
  | [.d (.sc (.slice none 0 0)), .d (.sc (.string key)), .d (.sc (.string value))] => some ([F.isP []], .tup [.d (.slc 3 ((F.putR [] key value)).1), intD (((F.putR [] key value)).2)])
  | _ => none)
theorem ok_putR (args : List DV) (cs : List Prop) (r : DV) (h : (kn_putR FsG20).2 args = some (cs, r)) (hc : allP cs True) : FnV Try.prog 20 args r ∧ closedL 0 args = true := by
  unfold kn_putR at h
  simp only at h
  split at h
  · cases h; exact ⟨v_putR _ _ _ hc.1, rfl⟩
  · cases h; exact ⟨FnP.nils (v_putR [] _ _ hc.1) ⟨.inr ⟨rfl, _, rfl⟩, ⟨.inl rfl, ⟨.inl rfl, trivial⟩⟩⟩, rfl⟩
  · cases h
set_option maxRecDepth 100000 in
theorem v_delR (xs : List (List PD)) (key : ByteArray) (hp0 : FsG20.isP xs) : FnV Try.prog 21 [.d (.slc 3 xs), strD key] (.tup [.d (.slc 3 ((delX xs key)).1), boolD (((delX xs key)).2)]) := by
  have hr := findX_range xs key
  have hsz := hp0.sz
  obtain ⟨GFsE, hGFsE⟩ : ∃ F, F = FsE0 := ⟨_, rfl⟩
  have hH : SoundK Try.prog [kn_findR GFsE] := by subst hGFsE; exact orK_ok ok_findR noK_ok
  refine FnD_cbv (T := fun _ => tabY [] [4]) (H := fun _ => [kn_findR GFsE]) (tabY_ok _ _) hH follows_mixed Try.func21 rfl Try.ntmps21 (by simp) fun A X W hA hX hW => ?_
  cbv
  repeat' first
    | (refine part (fun h => ?_) (fun h => ?_) <;> try cbv)
    | (refine And.intro ?_ ?_)
  all_goals try ((with_reducible refine regionL [1000001] [] (T := fun _ => tabY [] []) (H := fun _ => [kn_findR GFsE]) (B := fun _ => []) (R := fun _ => []) (A := A) (tabY_ok _ _) hH noB_ok noR_ok follows_mixed hA hX (by kernel_rfl) (by kernel_rfl) (by kernel_rfl) ?_) <;> cbv)
  repeat' first
    | (refine part (fun h => ?_) (fun h => ?_) <;> try cbv)
    | (refine And.intro ?_ ?_)
  all_goals first
    | (subst hA hX hW hGFsE
       clear hH
       simp only [A0, nc, FsE0] at *
       first
         | (show Region.lexB _ _ = true; kernel_rfl)
         | (show turnsB _ = true; kernel_rfl)
         | assumption
         | (intros; first | assumption | trivial | omega | (simp_all; done))
         | (refine ⟨by omega, by omega⟩))
    | skip
  all_goals subst hA hX hW hGFsE
  all_goals clear hH
  all_goals simp only [A0, nc, FsE0] at *
  all_goals have hl := hp0.len
  all_goals try unfold Proofs.Ytbceikkjogbgeaa.delX
  all_goals generalize findX xs key = q at *
  all_goals obtain ⟨i0, ok⟩ := q
  all_goals simp only at *
  all_goals obtain ⟨k, rfl⟩ : ∃ k : Nat, i0 = k := ⟨i0.toNat, by omega⟩
  all_goals have hk : k ≤ xs.length := by omega
  all_goals have ek : IntKind.wrap .i64 ((k : Int) + 1) = ((k + 1 : Nat) : Int) := by rw [wrap_i64 (by unfold r64; omega)]; omega
  all_goals have ed : List.take (xs.length - (k + 1)) (List.drop (k + 1) xs) = List.drop (k + 1) xs := List.take_of_length_le (by simp)
  all_goals simp only [ek, Int.toNat_natCast, Int.toNat_zero, Nat.sub_zero, List.drop_zero, List.nil_append, Nat.zero_add, ed] at *
  all_goals first
    | omega
    | (simp only [List.length_append, List.length_take, List.length_drop, List.length_singleton]; omega)
    | exact rowsD_len fun y hy => hsz y (List.mem_of_mem_take hy)
    | (have h2 : ok = false := by simpa using ‹(!ok) = true›
       subst h2
       rw [if_neg (by simp)]
       exact ret_slice2 (xs := xs) rfl rfl rfl rfl rfl hsz rfl)
    | (have h2 : ok = true := by simpa using ‹(!ok) = false›
       subst h2
       have hky : k < xs.length := by have := hr.2.2 rfl; omega
       first
         | omega
         | (refine ⟨by omega, by omega, by omega⟩)
         | (rw [if_pos rfl]
            refine ret_slice2 (xs := delP xs k) rfl rfl rfl ?_ ?_ (hp0.del k).sz rfl
            · simp only [delP, List.length_append]
            · simp only [delP, rowsD_append]))
    | skip

def kn_delR (F : FsG2) : FuncId × (List DV → RV) := (21, fun args => match args with
  | [.d (.slc 3 xs), .d (.sc (.string key))] => some ([F.isP xs], .tup [.d (.slc 3 ((F.delR xs key)).1), boolD (((F.delR xs key)).2)])
  | [.d (.sc (.slice none 0 0)), .d (.sc (.string key))] => some ([F.isP []], .tup [.d (.slc 3 ((F.delR [] key)).1), boolD (((F.delR [] key)).2)])
  | _ => none)
theorem ok_delR (args : List DV) (cs : List Prop) (r : DV) (h : (kn_delR FsG20).2 args = some (cs, r)) (hc : allP cs True) : FnV Try.prog 21 args r ∧ closedL 0 args = true := by
  unfold kn_delR at h
  simp only at h
  split at h
  · cases h; exact ⟨v_delR _ _ hc.1, rfl⟩
  · cases h; exact ⟨FnP.nils (v_delR [] _ hc.1) ⟨.inr ⟨rfl, _, rfl⟩, ⟨.inl rfl, trivial⟩⟩, rfl⟩
  · cases h
end Go.Proofs.Ytbceikkjogbgeaa
namespace Go.Proofs.Ytbceikkjogbgeaa
open Go.RowKit
set_option linter.all false
set_option maxHeartbeats 4000000

structure FsM where
  roomyP : List (List PD) → Pair → List (List PD)
  intactP : List (List PD) → List (List PD) → Pair → Bool
  roomP : List (List PD) → List (List PD) → Pair → Prop
  isP : List (List PD) → Prop
def FsM0 : FsM where
  roomyP := fun xs m => roomG xs m.row
  intactP := fun _ _ _ => true
  roomP := fun full xs m => roomPg full xs m.row
  isP := isP
set_option maxRecDepth 100000 in
theorem v_roomyP (xs : List (List PD)) (m : Pair) (hp0 : FsM0.isP xs) : FnV Try.prog 18 [.d (.slc 3 xs), Pair.D m] (.d (.slc 3 ((fun xs m => roomG xs (Pair.row m)) xs m))) := by
  obtain ⟨m_key, m_value, m_version⟩ := m
  refine FnD_cbv (T := fun _ => tabY [25] []) (H := fun _ => []) (tabY_ok _ _) noK_ok follows_mixed Try.func18 rfl Try.ntmps18 (by simp) fun A X W hA hX hW => ?_
  cbv
  have hl : xs.length ≤ 4194304 := hp0.len
  have hsz : ∀ x ∈ xs, x.length = 3 := hp0.sz
  have hrl : (rowsD xs).length = xs.length * 3 := rowsD_len hsz
  obtain ⟨N, hN⟩ : ∃ N, N = xs.length + 80 := ⟨_, rfl⟩
  have e1 : IntKind.wrap .i64 ((xs.length : Int) + 80) = xs.length + 80 := wrap_i64 (by unfold r64; omega)
  refine And.intro ?_ (And.intro ?_ (And.intro ?_ (And.intro ?_ ?_)))
  · subst hA; simp only [A0]; rw [e1]; omega
  · subst hA; simp only [A0]
  · subst hA; simp only [A0]; rw [e1]; omega
  · subst hA; simp only [A0]; rw [e1]; simp [hrl]; omega
  refine loopL (T := fun _ => tabY [25] []) (H := fun _ => []) (tabY_ok _ _) noK_ok follows_mixed hA hX (fun x : List DV × Int => ∃ k : Nat, x.1 = roomCg xs [.sc (.string m_key), .sc (.string m_value), .sc (.int .i64 m_version)] [.sc (.string none8), .sc (.string none8), .sc (.int .i64 0)] k ∧ x.2 = xs.length + k ∧ k ≤ 80)
    (fun x => [(0, .d (.slc 3 xs)), (3, .ref 0 0 0), (5, .view 3 1 0 0 N), (6, .d (.sc (.int .i64 x.2)))]) (fun x => [⟨29, [.d (.sc (.string m_key)), .d (.sc (.string m_value)), .d (.sc (.int .i64 m_version))], false, 0, true⟩, ⟨29, x.1, false, 0, true⟩])
    (fun x => 80 + xs.length - x.2.toNat) (roomCg xs [.sc (.string m_key), .sc (.string m_value), .sc (.int .i64 m_version)] [.sc (.string none8), .sc (.string none8), .sc (.int .i64 0)] 0, (xs.length : Int)) ?_ ?_ ?_
  · exact ⟨0, rfl, by simp, by omega⟩
  · subst hA
    refine told_stG ?_ ?_
    · simp only [A0]
      rw [e1, show ((xs.length : Int) + 80).toNat = xs.length + 80 by omega, ← roomG_0 (m := [.sc (.string m_key), .sc (.string m_value), .sc (.int .i64 m_version)]) (z := [.sc (.string none8), .sc (.string none8), .sc (.int .i64 0)]) hrl]
      simp only [Int.lt_irrefl, decide_false]
      rfl
    · simp only [A0]
      rw [e1]
      simp [toldP, getS, hN]
      omega
  rintro R ⟨cells, i⟩ hR hinv
  cbv
  repeat' first
    | (refine part (fun h => ?_) (fun h => ?_) <;> try cbv)
    | (refine And.intro ?_ ?_)
  all_goals subst hR hA hX hW
  all_goals replace hinv : ∃ k : Nat, cells = roomCg xs [.sc (.string m_key), .sc (.string m_value), .sc (.int .i64 m_version)] [.sc (.string none8), .sc (.string none8), .sc (.int .i64 0)] k ∧ i = xs.length + k ∧ k ≤ 80 := hinv
  all_goals obtain ⟨k, hc, hi, hk⟩ := hinv
  all_goals simp only [A0, nc, decide_eq_true_eq, decide_eq_false_iff_not] at *
  all_goals have hcl := roomG_len (m := [.sc (.string m_key), .sc (.string m_value), .sc (.int .i64 m_version)]) (z := [.sc (.string none8), .sc (.string none8), .sc (.int .i64 0)]) hrl rfl rfl hk
  all_goals first
    | omega
    | (rw [hc, hcl]; omega)
    | (have hk8 : k < 80 := by omega
       have ei : IntKind.wrap .i64 (i + 1) = i + 1 := wrap_i64 (by unfold r64; omega)
       have ej : i.toNat = xs.length + k := by omega
       refine ⟨(roomCg xs [.sc (.string m_key), .sc (.string m_value), .sc (.int .i64 m_version)] [.sc (.string none8), .sc (.string none8), .sc (.int .i64 0)] (k + 1), i + 1), ⟨k + 1, rfl, (by show i + 1 = (xs.length : Int) + ((k + 1 : Nat) : Int); omega), by omega⟩, (by show 80 + xs.length - (i + 1).toNat < 80 + xs.length - i.toNat; omega), told_stG (s := _) ?_ ?_⟩
       · have hS := roomG_S (xs := xs) (m := [.sc (.string m_key), .sc (.string m_value), .sc (.int .i64 m_version)]) (z := [.sc (.string none8), .sc (.string none8), .sc (.int .i64 0)]) hrl rfl rfl hk8
         simp only [Nat.zero_add]
         rw [hc, ej, ← hS]
         rfl
       · simp [toldP, getS, ei])
    | (have hk8 : k = 80 := by omega
       subst hk8
       refine ret_slice rfl rfl rfl ?_ (by rw [hc]; exact roomG_E) (roomG_sz hsz rfl) rfl
       rw [roomG_length]; exact hN)
def kn_roomyP (F : FsM) : FuncId × (List DV → RV) := (18, fun args => match args with
  | [.d (.slc 3 xs), .agg [.d (.sc (.string m_key)), .d (.sc (.string m_value)), .d (.sc (.int .i64 m_version))]] => some ([F.isP xs], .d (.slc 3 (F.roomyP xs ⟨m_key, m_value, m_version⟩)))
  | [.d (.sc (.slice none 0 0)), .agg [.d (.sc (.string m_key)), .d (.sc (.string m_value)), .d (.sc (.int .i64 m_version))]] => some ([F.isP []], .d (.slc 3 (F.roomyP [] ⟨m_key, m_value, m_version⟩)))
  | _ => none)
theorem ok_roomyP (args : List DV) (cs : List Prop) (r : DV) (h : (kn_roomyP FsM0).2 args = some (cs, r)) (hc : allP cs True) : FnV Try.prog 18 args r ∧ closedL 0 args = true := by
  unfold kn_roomyP at h
  simp only at h
  split at h
  · cases h; exact ⟨v_roomyP _ ⟨_, _, _⟩ hc.1, rfl⟩
  · cases h; exact ⟨FnP.nils (v_roomyP [] ⟨_, _, _⟩ hc.1) ⟨.inr ⟨rfl, _, rfl⟩, ⟨.inl rfl, trivial⟩⟩, rfl⟩
  · cases h
set_option maxRecDepth 100000 in
theorem v_intactP (full : List (List PD)) (xs : List (List PD)) (m : Pair) (hp0 : FsM0.isP xs) (hp1 : FsM0.roomP full xs m) : FnV Try.prog 23 [.d (.slc 3 full), .d (.slc 3 xs), Pair.D m] (boolD (((fun (_ _ : List (List PD)) (_ : Pair) => true) full xs m))) := by
  obtain ⟨m_key, m_value, m_version⟩ := m
  obtain ⟨GFsS, hGFsS⟩ : ∃ F, F = FsS0 := ⟨_, rfl⟩
  have hH : SoundK Try.prog [kn_same GFsS] := by subst hGFsS; exact orK_ok ok_same noK_ok
  refine FnD_cbv (T := fun _ => tabY [33] []) (H := fun _ => [kn_same GFsS]) (tabY_ok _ _) hH follows_mixed Try.func23 rfl Try.ntmps23 (by simp) fun A X W hA hX hW => ?_
  cbv
  have hl : xs.length ≤ 4194304 := hp0.len
  have hsz : ∀ x ∈ xs, x.length = 3 := hp0.sz
  replace hp1 : full = roomG xs [.sc (.string m_key), .sc (.string m_value), .sc (.int .i64 m_version)] := hp1
  have hfl : full.length = xs.length + 80 := by rw [hp1, roomG_length]
  have e1 : IntKind.wrap .i64 ((xs.length : Int) + 80) = xs.length + 80 := wrap_i64 (by unfold r64; omega)
  have ht : full.take xs.length = xs := by rw [hp1]; exact roomG_take xs _
  have hs : sameX xs xs = true := by simp [sameX]
  repeat' first
    | (refine And.intro ?_ ?_)
  rotate_right 1
  refine part (fun h => ?_) (fun h => ?_)
  · exfalso
    subst hA hGFsS
    simp only [A0, FsS0] at h
    simp [hfl, e1, hs, ht] at h
  cbv
  refine loopL (T := fun _ => tabY [33] []) (H := fun _ => [kn_same GFsS]) (tabY_ok _ _) hH follows_mixed hA hX (fun i : Int => (xs.length : Int) ≤ i ∧ i ≤ xs.length + 80)
    (fun i => [(0, .d (.slc 3 full)), (1, .d (.slc 3 xs)), (5, .ref 0 0 0), (7, .d (.sc (.int .i64 i)))]) (fun _ => [⟨29, [.d (.sc (.string m_key)), .d (.sc (.string m_value)), .d (.sc (.int .i64 m_version))], false, 0, true⟩])
    (fun i => 80 + xs.length - i.toNat) (xs.length : Int) ?_ ?_ ?_
  · exact ⟨by omega, by omega⟩
  · subst hA
    exact told_less (by simp [toldP, getS, A0])
  rintro R i hR ⟨i0, i1⟩
  cbv
  repeat' first
    | (refine part (fun h => ?_) (fun h => ?_) <;> try cbv)
    | (refine And.intro ?_ ?_)
  all_goals try subst hR
  all_goals subst hA hX hW hGFsS
  all_goals clear hH
  all_goals simp only [A0, nc, FsS0, decide_eq_true_eq, decide_eq_false_iff_not, Bool.not_eq_true', Bool.not_eq_false'] at *
  all_goals try replace i0 : (xs.length : Int) ≤ i := i0
  all_goals try replace i1 : i ≤ (xs.length : Int) + 80 := i1
  all_goals first
    | (show Region.lexB _ _ = true; kernel_rfl)
    | assumption
    | omega
    | exact ⟨by omega, by omega⟩
    | (rw [hp1, roomG_row i0 (by omega)]; simp; done)
    | (exfalso; rw [hp1, roomG_row i0 (by omega)] at h; simp at h; done)
    | exact ret_v rfl rfl
    | (have ei : IntKind.wrap .i64 (i + 1) = i + 1 := wrap_i64 (by unfold r64; omega)
       refine ⟨i + 1, (by show (xs.length : Int) ≤ i + 1 ∧ i + 1 ≤ (xs.length : Int) + 80; omega), (by show 80 + xs.length - (i + 1).toNat < 80 + xs.length - i.toNat; omega), told_less ?_⟩
       simp [toldP, getS, ei])
    | (intros; first | assumption | trivial | (simp_all; done) | (simp only [Int.toNat_natCast, Int.toNat_zero, Nat.sub_zero, List.drop_zero, ht]; assumption) | (refine ⟨?_, ?_, ?_⟩ <;> omega))
def kn_intactP (F : FsM) : FuncId × (List DV → RV) := (23, fun args => match args with
  | [.d (.slc 3 full), .d (.slc 3 xs), .agg [.d (.sc (.string m_key)), .d (.sc (.string m_value)), .d (.sc (.int .i64 m_version))]] => some ([F.isP xs, F.roomP full xs ⟨m_key, m_value, m_version⟩], boolD ((F.intactP full xs ⟨m_key, m_value, m_version⟩)))
  | [.d (.sc (.slice none 0 0)), .d (.slc 3 xs), .agg [.d (.sc (.string m_key)), .d (.sc (.string m_value)), .d (.sc (.int .i64 m_version))]] => some ([F.isP xs, F.roomP [] xs ⟨m_key, m_value, m_version⟩], boolD ((F.intactP [] xs ⟨m_key, m_value, m_version⟩)))
  | [.d (.slc 3 full), .d (.sc (.slice none 0 0)), .agg [.d (.sc (.string m_key)), .d (.sc (.string m_value)), .d (.sc (.int .i64 m_version))]] => some ([F.isP [], F.roomP full [] ⟨m_key, m_value, m_version⟩], boolD ((F.intactP full [] ⟨m_key, m_value, m_version⟩)))
  | [.d (.sc (.slice none 0 0)), .d (.sc (.slice none 0 0)), .agg [.d (.sc (.string m_key)), .d (.sc (.string m_value)), .d (.sc (.int .i64 m_version))]] => some ([F.isP [], F.roomP [] [] ⟨m_key, m_value, m_version⟩], boolD ((F.intactP [] [] ⟨m_key, m_value, m_version⟩)))
  | _ => none)
theorem ok_intactP (args : List DV) (cs : List Prop) (r : DV) (h : (kn_intactP FsM0).2 args = some (cs, r)) (hc : allP cs True) : FnV Try.prog 23 args r ∧ closedL 0 args = true := by
  unfold kn_intactP at h
  simp only at h
  split at h
  · cases h; exact ⟨v_intactP _ _ ⟨_, _, _⟩ hc.1 hc.2.1, rfl⟩
  · cases h; exact ⟨FnP.nils (v_intactP [] _ ⟨_, _, _⟩ hc.1 hc.2.1) ⟨.inr ⟨rfl, _, rfl⟩, ⟨.inl rfl, ⟨.inl rfl, trivial⟩⟩⟩, rfl⟩
  · cases h; exact ⟨FnP.nils (v_intactP _ [] ⟨_, _, _⟩ hc.1 hc.2.1) ⟨.inl rfl, ⟨.inr ⟨rfl, _, rfl⟩, ⟨.inl rfl, trivial⟩⟩⟩, rfl⟩
  · cases h; exact ⟨FnP.nils (v_intactP [] [] ⟨_, _, _⟩ hc.1 hc.2.1) ⟨.inr ⟨rfl, _, rfl⟩, ⟨.inr ⟨rfl, _, rfl⟩, ⟨.inl rfl, trivial⟩⟩⟩, rfl⟩
  · cases h
end Go.Proofs.Ytbceikkjogbgeaa
namespace Go.Proofs.Ytbceikkjogbgeaa
open Go.RowKit
set_option linter.all false
set_option maxHeartbeats 4000000
theorem rangeL_filter (s : Span) : ∀ (ps acc : List Pair), acc.length ≤ 8 → rangeL s ps acc = ((acc ++ ps.filter fun p => hasS s p.key).take 8, decide (8 < (acc ++ ps.filter fun p => hasS s p.key).length))
  | [], acc, h => by
      simp only [rangeL, List.filter_nil, List.append_nil, Prod.mk.injEq]
      exact ⟨(List.take_of_length_le h).symm, by simp; omega⟩
  | p :: ps, acc, h => by
      unfold rangeL
      by_cases hp : hasS s p.key = true
      · rw [if_pos hp, List.filter_cons_of_pos (by simpa using hp)]
        split
        · rename_i h8
          rw [List.take_append_of_le_length (by omega), List.take_of_length_le (by omega)]
          simp [h8]
        · rw [rangeL_filter s ps (acc ++ [p]) (by simp; omega)]
          simp
      · rw [if_neg hp, List.filter_cons_of_neg (by simpa using hp), rangeL_filter s ps acc h]
structure Ask where
  kind : Int
  key : ByteArray
  value : ByteArray
  span : Span
def Ask.row (a : Ask) : List PD := [.sc (.int .i64 a.kind), .sc (.string a.key), .sc (.string a.value), .sc (.string a.span.lo), .sc (.string a.span.hi)]
def asksX (qs : List Ask) : List (List PD) := qs.map Ask.row
def isA (xs : List (List PD)) : Prop := ∃ qs, xs = asksX qs
theorem isA.row {xs : List (List PD)} (h : isA xs) {i : Int} (h0 : 0 ≤ i) (h1 : i < xs.length) : ∃ a : Ask, xs.getD i.toNat [] = a.row := by
  obtain ⟨qs, rfl⟩ := h
  have hl : i.toNat < qs.length := by simp [asksX] at h1; omega
  exact ⟨qs[i.toNat], by simp [asksX, List.getD_eq_getElem?_getD, hl]⟩
/-- How many of the first pairs a span has. -/
def cntS (s : Span) (ps : List Pair) (i : Nat) : Nat := ((ps.take i).filter fun p => hasS s p.key).length
theorem cntS_succ {s : Span} {ps : List Pair} {i : Nat} (h : i < ps.length) : cntS s ps (i + 1) = if hasS s (ps[i]).key = true then cntS s ps i + 1 else cntS s ps i := by
  unfold cntS
  rw [List.take_succ_eq_append_getElem h, List.filter_append]
  split <;> rename_i hp
  · rw [List.filter_cons_of_pos (by simpa using hp)]; simp
  · rw [List.filter_cons_of_neg (by simpa using hp)]; simp
theorem cntS_get {s : Span} {ps : List Pair} {i : Nat} (h : i < ps.length) (hp : hasS s (ps[i]).key = true) : (ps.filter fun p => hasS s p.key)[cntS s ps i]? = some ps[i] := by
  have hf : (ps.filter fun p => hasS s p.key) = ((ps.take i).filter fun p => hasS s p.key) ++ ps[i] :: ((ps.drop (i + 1)).filter fun p => hasS s p.key) := by
    have e : ps.take i ++ ps[i] :: ps.drop (i + 1) = ps := by rw [← List.drop_eq_getElem_cons h, List.take_append_drop]
    have e2 : (ps[i] :: ps.drop (i + 1)).filter (fun p => hasS s p.key) = ps[i] :: (ps.drop (i + 1)).filter (fun p => hasS s p.key) := List.filter_cons_of_pos (by simpa using hp)
    rw [← e2, ← List.filter_append, e]
  rw [hf]
  unfold cntS
  rw [List.getElem?_append_right (Nat.le_refl _), Nat.sub_self]
  rfl
theorem cntS_all (s : Span) (ps : List Pair) : cntS s ps ps.length = (ps.filter fun p => hasS s p.key).length := by simp [cntS]

theorem ranges_end (s : Span) (ps : List Pair) : ((rangeL s ps []).1.length ≤ 8 ∧ (rangeL s ps []).1.length ≤ cntS s ps ps.length) ∧ (rangeL s ps []).2 = decide ((rangeL s ps []).1.length < cntS s ps ps.length) ∧ ((rangeL s ps []).2 = true → (rangeL s ps []).1.length = 8) := by
  rw [rangeL_filter s ps [] (by simp), cntS_all]
  simp only [List.nil_append, List.length_take, decide_eq_true_eq]
  refine ⟨⟨by omega, by omega⟩, ?_, fun h => by omega⟩
  rw [decide_eq_decide]
  omega
theorem ranges_at {s : Span} {ps : List Pair} {i : Nat} (h : i < ps.length) (hp : hasS s (ps[i]).key = true) :
    (cntS s ps i < (rangeL s ps []).1.length → (rangeL s ps []).1[cntS s ps i]? = some ps[i]) ∧ ((rangeL s ps []).1.length ≤ cntS s ps i → (rangeL s ps []).2 = true) := by
  have hg := cntS_get h hp
  have hl := (List.getElem?_eq_some_iff.1 hg).1
  rw [rangeL_filter s ps [] (by simp)]
  simp only [List.nil_append, List.length_take, decide_eq_true_eq]
  refine ⟨fun h1 => ?_, fun h1 => by omega⟩
  rw [List.getElem?_take, if_pos (by omega)]
  exact hg

structure FsD where
  ranges : List (List PD) → Span → Bool
  isA : List (List PD) → Prop
def FsD0 : FsD where
  ranges := fun _ _ => true
  isA := isA
set_option maxRecDepth 100000 in
theorem v_ranges (xs : List (List PD)) (s : Span) (hp0 : FsD0.isA xs) : FnV Try.prog 5 [.d (.slc 5 xs), Span.D s] (boolD (((fun (_ : List (List PD)) (_ : Span) => true) xs s))) := by
  obtain ⟨s_lo, s_hi⟩ := s
  obtain ⟨GFsH, hGFsH⟩ : ∃ F, F = FsH0 := ⟨_, rfl⟩
  obtain ⟨GFsR, hGFsR⟩ : ∃ F, F = FsR0 := ⟨_, rfl⟩
  obtain ⟨GFsS, hGFsS⟩ : ∃ F, F = FsS0 := ⟨_, rfl⟩
  obtain ⟨GFsU, hGFsU⟩ : ∃ F, F = FsU0 := ⟨_, rfl⟩
  have hH : SoundK Try.prog [kn_put GFsH, kn_range GFsR, kn_has GFsS, kn_runs GFsU] := by subst hGFsH hGFsR hGFsS hGFsU; exact orK_ok ok_put (orK_ok ok_range (orK_ok ok_has (orK_ok ok_runs noK_ok)))
  refine FnD_cbv (T := fun _ => tabY [25, 26, 32, 33, 41, 42, 51, 52, 56, 57, 80, 81, 92, 96] []) (H := fun _ => [kn_put GFsH, kn_range GFsR, kn_has GFsS, kn_runs GFsU]) (tabY_ok _ _) hH follows_mixed Try.func5 rfl Try.ntmps5 (by simp) fun A X W hA hX hW => ?_
  cbv
  refine loopL (T := fun _ => tabY [25, 26, 32, 33, 41, 42, 51, 52, 56, 57, 80, 81, 92, 96] []) (H := fun _ => [kn_put GFsH, kn_range GFsR, kn_has GFsS, kn_runs GFsU]) (tabY_ok _ _) hH follows_mixed hA hX (fun x : Int × List (List PD) => (0 ≤ x.1 ∧ x.1 ≤ 40) ∧ isP x.2)
    (fun x => [(0, .d (.slc 5 xs)), (3, .ref 0 0 0), (5, .d (.slc 3 x.2)), (6, .d (.sc (.int .i64 x.1)))]) (fun x => [⟨35, [.d (.sc (.string s_lo)), .d (.sc (.string s_hi))], false, 0, true⟩])
    (fun x => 40 - x.1.toNat) (0, []) ?_ ?_ ?_
  · exact ⟨⟨by decide, by decide⟩, isP.nil⟩
  · refine told_up ?_
    simp [toldUP, UpD, getS, intD, boolD]
  rintro R ⟨i, m⟩ hR ⟨hi, hm⟩
  replace hi : 0 ≤ i ∧ i ≤ 40 := hi
  replace hm : isP m := hm
  cbv
  repeat' first
    | (refine part (fun h => ?_) (fun h => ?_) <;> try cbv)
    | (refine And.intro ?_ ?_)

  all_goals first
    | (subst hA hX hW hR hGFsH hGFsR hGFsS hGFsU
       clear hH
       simp only [A0, nc, FsH0, FsR0, FsS0, FsU0] at *
       first
         | (show Region.lexB _ _ = true; kernel_rfl)
         | (show turnsB _ = true; kernel_rfl)
         | (intros; first | assumption | trivial | (simp_all; done))
         | (have hlt : i < (xs.length : Int) := by simp_all
            obtain ⟨a, ha⟩ := hp0.row hi.1 hlt
            simp only [ha, Ask.row] at *
            first
              | omega
              | (simp; done)
              | (intros; first | assumption | trivial | (simp_all; done))))
    | skip
  all_goals try
    (have hR2 := hR
     subst hA hX hW hR hGFsH hGFsR hGFsS hGFsU
     clear hH
     simp only [A0, nc, FsH0, FsR0, FsS0, FsU0] at *
     have hlt : i < 40 := by simp_all
     have ei : IntKind.wrap .i64 (i + 1) = i + 1 := wrap_i64 (by unfold r64; omega)
     first
       | (refine ⟨(i + 1, m), ⟨⟨by show (0 : Int) ≤ i + 1; omega, by show i + 1 ≤ 40; omega⟩, hm⟩, by show 40 - (i + 1).toNat < 40 - i.toNat; omega, told_less ?_⟩
          simp [toldP, getS, ei]
          done)
       | (obtain ⟨m2, hm2, hp2⟩ : ∃ m2, m2 = (putX m _ _).1 ∧ isP m2 := ⟨_, rfl, hm.put _ _⟩
          refine ⟨(i + 1, m2), ⟨⟨by show (0 : Int) ≤ i + 1; omega, by show i + 1 ≤ 40; omega⟩, hp2⟩, by show 40 - (i + 1).toNat < 40 - i.toNat; omega, told_less ?_⟩
          exact ⟨.inl rfl, .inl rfl, .inl (congrArg (fun l => DV.d (.slc 3 l)) hm2), .inl (congrArg (fun n => DV.d (.sc (.int .i64 n))) ei.symm), trivial⟩))
  obtain ⟨ps, hps, hl⟩ := hm
  have hlen : m.length = ps.length := by rw [hps]; exact pairsX_length ps
  obtain ⟨⟨r, more⟩, hr⟩ : ∃ p, p = GFsR.range m ⟨s_lo, s_hi⟩ := ⟨_, rfl⟩
  cbv at hr
  simp only [← hr]
  have hrx : (r, more) = rangeX m ⟨s_lo, s_hi⟩ := by subst hGFsR; exact hr
  obtain ⟨S, hS⟩ : ∃ S : Span, S = ⟨s_lo, s_hi⟩ := ⟨_, rfl⟩
  obtain ⟨rs, hrs⟩ : ∃ rs, rs = (rangeL S ps []).1 := ⟨_, rfl⟩
  have hr1 : r = pairsX rs := by
    rw [hrs, hS]
    have := congrArg Prod.fst hrx
    unfold rangeX at this
    rw [hps, pairsOf_X] at this
    exact this
  have hr2 : more = (rangeL S ps []).2 := by
    rw [hS]
    have := congrArg Prod.snd hrx
    unfold rangeX at this
    rw [hps, pairsOf_X] at this
    exact this
  have hrl : r.length = rs.length := by rw [hr1]; exact pairsX_length rs
  have hend := ranges_end S ps
  have hat := @ranges_at S ps
  have hsuc := @cntS_succ S ps
  rw [← hrs, ← hr2] at hend hat
  have hce : ∀ n : Nat, n = ps.length → cntS S ps n = cntS S ps ps.length := fun n h => by rw [h]
  clear hrx hrs hr2
  refine loopL (T := fun _ => tabY [25, 26, 32, 33, 41, 42, 51, 52, 56, 57, 80, 81, 92, 96] []) (H := fun _ => [kn_put GFsH, kn_range GFsR, kn_has GFsS, kn_runs GFsU]) (tabY_ok _ _) hH follows_mixed hA hX (fun x : Int × Int => (0 ≤ x.1 ∧ x.1 ≤ ps.length) ∧ x.2 = cntS S ps x.1.toNat)
    (fun x => [(3, .ref 0 0 0), (5, .d (.slc 3 m)), (9, .d (.slc 3 r)), (10, .d (.sc (.bool more))), (11, .d (.sc (.int .i64 x.2))), (12, .d (.sc (.int .i64 x.1)))]) (fun x => [⟨35, [.d (.sc (.string s_lo)), .d (.sc (.string s_hi))], false, 0, true⟩])
    (fun x => (ps.length : Int).toNat - x.1.toNat) (0, 0) ?_ ?_ ?_
  · exact ⟨⟨by decide, by show (0 : Int) ≤ (ps.length : Int); omega⟩, rfl⟩
  · exact told_less (by simp [toldP, getS])
  rintro R ⟨j, k⟩ hR ⟨hj, hk⟩
  replace hj : 0 ≤ j ∧ j ≤ (ps.length : Int) := hj
  replace hk : k = (cntS S ps j.toNat : Int) := hk
  cbv
  repeat' first
    | (refine part (fun h => ?_) (fun h => ?_) <;> try cbv)
    | (refine And.intro ?_ ?_)

  all_goals first
    | (subst hS hA hX hW hR hGFsH hGFsR hGFsS hGFsU
       clear hH
       simp only [A0, nc, FsH0, FsR0, FsS0, FsU0] at *
       first
         | (show Region.lexB _ _ = true; kernel_rfl)
         | (show turnsB _ = true; kernel_rfl)
         | (intros; first | assumption | trivial | (simp_all; done))
         | (have hlt : j < (ps.length : Int) := by simp_all
            have hrow := prow hps hj.1 hlt
            have hat := hat (i := j.toNat) (by omega)
            have hsuc := hsuc (i := j.toNat) (by omega)
            generalize ps[j.toNat]'(by omega) = p at *
            simp only [hrow, Pair.row, List.drop_zero, List.map_cons, List.map_nil, List.getElem?_cons_zero] at *
            first
              | omega
              | (simp; done)
              | (intros; first | assumption | trivial | (simp_all; done))
              | (by_cases hkr : k < (rs.length : Int)
                 · have hrow2 := prow hr1 (i := k) (by omega) hkr
                   generalize rs[k.toNat]'(by omega) = q at *
                   simp only [hrow2, Pair.row, List.drop_zero, List.map_cons, List.map_nil, List.getElem?_cons_zero] at *
                   first
                     | omega
                     | (simp; done)
                     | (intros; first | assumption | trivial | (simp_all; done))
                 · first
                     | omega
                     | (intros; first | assumption | trivial | (simp_all; done)))))
    | skip
  all_goals
    subst hS hA hX hW hR hGFsH hGFsR hGFsS hGFsU
    clear hH
    simp only [A0, nc, FsH0, FsR0, FsS0, FsU0] at *
    have ei : IntKind.wrap .i64 (j + 1) = j + 1 := wrap_i64 (by unfold r64; omega)
  all_goals first
    | (have hlt : j < (ps.length : Int) := by simp_all
       have ek : IntKind.wrap .i64 (k + 1) = k + 1 := wrap_i64 (by
         have : cntS ⟨s_lo, s_hi⟩ ps j.toNat ≤ ps.length := by
           unfold cntS
           exact Nat.le_trans (List.length_filter_le _ _) (by rw [List.length_take]; omega)
         unfold r64; omega)
       have hrow := prow hps hj.1 hlt
       have hat := hat (i := j.toNat) (by omega)
       have hsuc := hsuc (i := j.toNat) (by omega)
       rw [show j.toNat + 1 = (j + 1).toNat by omega] at hsuc
       generalize ps[j.toNat]'(by omega) = p at *
       simp only [hrow, Pair.row, List.drop_zero, List.map_cons, List.map_nil, List.getElem?_cons_zero, List.getElem?_cons_succ, Nat.zero_add] at *
       first
         | (have hq := ‹(!hasS ⟨s_lo, s_hi⟩ p.key) = true›
            have hq : hasS ⟨s_lo, s_hi⟩ p.key = false := by simpa using hq
            rw [hq, if_neg (by simp)] at hsuc
            refine ⟨(j + 1, k), ⟨⟨by show (0 : Int) ≤ j + 1; omega, by show j + 1 ≤ (ps.length : Int); omega⟩, by show k = (cntS _ ps (j + 1).toNat : Int); rw [hsuc]; exact hk⟩, by show (ps.length : Int).toNat - (j + 1).toNat < (ps.length : Int).toNat - j.toNat; omega, told_less ?_⟩
            simp [toldP, getS, ei]
            done)
         | (have hq := ‹(!hasS ⟨s_lo, s_hi⟩ p.key) = false›
            have hq : hasS ⟨s_lo, s_hi⟩ p.key = true := by simpa using hq
            rw [hq, if_pos rfl] at hsuc
            obtain ⟨hat1, hat2⟩ := hat hq
            have hrk : k < (rs.length : Int) → rs[k.toNat]? = some p := fun h => by
              have := hat1 (by omega)
              rwa [show cntS ⟨s_lo, s_hi⟩ ps j.toNat = k.toNat by omega] at this
            have hrow2 : k < (rs.length : Int) → r.getD k.toNat [] = p.row := fun h => by
              have := hrk h
              rw [hr1, pairsX, List.getD_eq_getElem?_getD, List.getElem?_map, this]
              rfl
            by_cases hkr : k < (rs.length : Int)
            · simp only [hrow2 hkr, Pair.row, List.drop_zero, List.map_cons, List.map_nil, List.getElem?_cons_zero, List.getElem?_cons_succ, Nat.zero_add] at *
              first
                | (simp; done)
                | (intro _; rfl)
                | (refine ⟨(j + 1, k + 1), ⟨⟨by show (0 : Int) ≤ j + 1; omega, by show j + 1 ≤ (ps.length : Int); omega⟩, by show k + 1 = (cntS _ ps (j + 1).toNat : Int); rw [hsuc]; omega⟩, by show (ps.length : Int).toNat - (j + 1).toNat < (ps.length : Int).toNat - j.toNat; omega, told_less ?_⟩
                   simp [toldP, getS, ei, ek]
                   done)
                | (exfalso
                   have e1 : decide (k < (r.length : Int)) = true := by rw [hrl]; simpa using hkr
                   have e2 : decide ((r.length : Int) ≤ k) = false := by rw [hrl]; simpa using hkr
                   simp only [e1, e2] at *
                   simp at *
                   done)
            · first
                | (intro hh
                   exfalso
                   have e1 : decide (k < (r.length : Int)) = false := by rw [hrl]; simpa using hkr
                   rw [e1] at hh
                   cases hh
                   done)
                | (refine ⟨(j + 1, k + 1), ⟨⟨by show (0 : Int) ≤ j + 1; omega, by show j + 1 ≤ (ps.length : Int); omega⟩, by show k + 1 = (cntS _ ps (j + 1).toNat : Int); rw [hsuc]; omega⟩, by show (ps.length : Int).toNat - (j + 1).toNat < (ps.length : Int).toNat - j.toNat; omega, told_less ?_⟩
                   simp [toldP, getS, ei, ek]
                   done)
                | (exfalso
                   have e1 : decide (k < (r.length : Int)) = false := by rw [hrl]; simpa using hkr
                   have e3 := hat2 (by omega)
                   simp only [e1, e3] at *
                   simp at *
                   done)))
    | (have hge : ¬ j < (ps.length : Int) := by simp_all
       have e0 := hce j.toNat (by omega)
       rw [e0] at hk
       obtain ⟨⟨q1, q2⟩, q3, q4⟩ := hend
       have e1 : decide ((r.length : Int) ≤ 8) = true := by rw [hrl]; simpa using (by omega : (rs.length : Int) ≤ 8)
       have e2 : decide ((r.length : Int) ≤ k) = true := by rw [hrl, hk]; simpa using q2
       have e3 : decide ((r.length : Int) < k) = more := by rw [hrl, hk, q3]; simp
       have e4 : more = true → (r.length : Int) = 8 := fun h => by rw [hrl]; have := q4 h; omega
       first
         | (clear q3; cases more <;> simp_all; done)
         | (refine ret_v ?_ rfl
            clear q3
            cases more <;> simp_all [boolD]
            done))
    | skip
  all_goals trace_state
  all_goals fail
end Go.Proofs.Ytbceikkjogbgeaa
namespace Go.Proofs.Ytbceikkjogbgeaa
open Go.RowKit
set_option linter.all false
set_option maxHeartbeats 4000000
theorem isP.take {xs : List (List PD)} (h : isP xs) (n : Nat) : isP (xs.take n) := by
  obtain ⟨ps, rfl, hl⟩ := h
  exact ⟨ps.take n, by simp [pairsX], by rw [List.length_take]; omega⟩
theorem range_isP (xs : List (List PD)) (s : Span) : isP (rangeX xs s).1 := by
  refine ⟨_, rfl, ?_⟩
  rw [rangeL_filter s _ [] (by simp), List.length_take]
  omega
theorem take_room (xs : List (List PD)) (m : List PD) (n : Nat) (h : n = xs.length) : (roomG xs m).take n = xs := by rw [h]; exact roomG_take xs m

structure FsT where
  tells : List (List PD) → ByteArray → ByteArray → Span → Bool
  isP : List (List PD) → Prop
def FsT0 : FsT where
  tells := fun _ _ _ _ => true
  isP := isP
set_option maxRecDepth 100000 in
theorem v_tells (xs : List (List PD)) (k : ByteArray) (v : ByteArray) (s : Span) (hp0 : FsT0.isP xs) : FnV Try.prog 7 [.d (.slc 3 xs), strD k, strD v, Span.D s] (boolD (((fun (_ : List (List PD)) (_ _ : ByteArray) (_ : Span) => true) xs k v s))) := by
  obtain ⟨s_lo, s_hi⟩ := s
  have hl := hp0.len
  have ht := hp0.take 50
  obtain ⟨GFsK, hGFsK⟩ : ∃ F, F = FsK0 := ⟨_, rfl⟩
  obtain ⟨GFsA, hGFsA⟩ : ∃ F, F = FsA0 := ⟨_, rfl⟩
  obtain ⟨GFsM, hGFsM⟩ : ∃ F, F = FsM0 := ⟨_, rfl⟩
  obtain ⟨GFsG, hGFsG⟩ : ∃ F, F = FsG0 := ⟨_, rfl⟩
  obtain ⟨GFsE, hGFsE⟩ : ∃ F, F = FsE0 := ⟨_, rfl⟩
  obtain ⟨GFsH, hGFsH⟩ : ∃ F, F = FsH0 := ⟨_, rfl⟩
  obtain ⟨GFsG2, hGFsG2⟩ : ∃ F, F = FsG20 := ⟨_, rfl⟩
  obtain ⟨GFsDl, hGFsDl⟩ : ∃ F, F = FsDl0 := ⟨_, rfl⟩
  obtain ⟨GFsR, hGFsR⟩ : ∃ F, F = FsR0 := ⟨_, rfl⟩
  obtain ⟨GFsF, hGFsF⟩ : ∃ F, F = FsF0 := ⟨_, rfl⟩
  obtain ⟨GFsS, hGFsS⟩ : ∃ F, F = FsS0 := ⟨_, rfl⟩
  obtain ⟨GFsU, hGFsU⟩ : ∃ F, F = FsU0 := ⟨_, rfl⟩
  have hH : SoundK Try.prog [kn_rightR GFsK, kn_right GFsK, kn_rise GFsA, kn_roomyP GFsM, kn_get GFsG, kn_getR GFsE, kn_put GFsH, kn_putR GFsG2, kn_del GFsDl, kn_delR GFsG2, kn_range GFsR, kn_rangeR GFsF, kn_same GFsS, kn_intactP GFsM, kn_runs GFsU] := by subst hGFsK hGFsA hGFsM hGFsG hGFsE hGFsH hGFsG2 hGFsDl hGFsR hGFsF hGFsS hGFsU; exact orK_ok ok_rightR (orK_ok ok_right (orK_ok ok_rise (orK_ok ok_roomyP (orK_ok ok_get (orK_ok ok_getR (orK_ok ok_put (orK_ok ok_putR (orK_ok ok_del (orK_ok ok_delR (orK_ok ok_range (orK_ok ok_rangeR (orK_ok ok_same (orK_ok ok_intactP (orK_ok ok_runs noK_ok))))))))))))))
  refine FnD_cbv (T := fun _ => tabY [] []) (H := fun _ => [kn_rightR GFsK, kn_right GFsK, kn_rise GFsA, kn_roomyP GFsM, kn_get GFsG, kn_getR GFsE, kn_put GFsH, kn_putR GFsG2, kn_del GFsDl, kn_delR GFsG2, kn_range GFsR, kn_rangeR GFsF, kn_same GFsS, kn_intactP GFsM, kn_runs GFsU]) (tabY_ok _ _) hH follows_mixed Try.func7 rfl Try.ntmps7 (by simp) fun A X W hA hX hW => ?_
  cbv
  repeat' first
    | (refine part (fun h => ?_) (fun h => ?_) <;> try cbv)
    | (refine And.intro ?_ ?_)
  all_goals subst hA hX hW hGFsK hGFsA hGFsM hGFsG hGFsE hGFsH hGFsG2 hGFsDl hGFsR hGFsF hGFsS hGFsU
  all_goals clear hH
  all_goals simp only [A0, nc, FsK0, FsA0, FsM0, FsG0, FsE0, FsH0, FsG20, FsDl0, FsR0, FsF0, FsS0, FsU0] at *
  all_goals try simp only [Int.toNat_natCast, Int.toNat_zero, Nat.sub_zero, List.drop_zero, roomG_take, roomG_length] at *
  all_goals first
    | (show Region.lexB _ _ = true; kernel_rfl)
    | (show turnsB _ = true; kernel_rfl)
    | assumption
    | (intros; first | assumption | trivial | omega)
    | (refine ⟨by omega, by omega, by omega⟩)
    | (simp only [decide_eq_true_eq] at *; refine ⟨by omega, by omega, by omega⟩)
    | (have hr1 := hp0.rise
       have hr2 := ht.rise
       try simp only [show Int.toNat 50 = 50 from rfl] at *
       first
         | assumption
         | (generalize riseX (List.take 50 xs) = ys at *
            have q1 := hr2.put k v
            have q2 := hr2.delX k
            have q3 := range_isP ys ⟨s_lo, s_hi⟩
            first
              | (simp_all [same_refl, roomPg]; done)
              | (refine ret_v ?_ rfl; simp_all [same_refl, boolD, roomPg]; done))
         | (generalize riseX xs = ys at *
            have q1 := hr1.put k v
            have q2 := hr1.delX k
            have q3 := range_isP ys ⟨s_lo, s_hi⟩
            first
              | (simp_all [same_refl, roomPg]; done)
              | (refine ret_v ?_ rfl; simp_all [same_refl, boolD, roomPg]; done)))

end Go.Proofs.Ytbceikkjogbgeaa
