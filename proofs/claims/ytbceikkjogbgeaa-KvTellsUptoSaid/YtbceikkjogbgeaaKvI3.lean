/- slices.Clone handed on as one's own; slices.Insert of one pair anywhere. No condition. -/
import Derived.Test.YtbceikkjogbgeaaKvI2
import Derived.Test.YtbceikkjogbgeaaKv1
namespace Go.Proofs.Ytbceikkjogbgeaa
open Go.RowKit
set_option linter.all false

/-- Nothing's part from its beginning. -/
theorem nilSliceL {P : Program} {N : Nat} {X : Cps} (hX : X = X0 P N) {T : Tab} (hT : TabOk P T) {t sz e : Nat} {k : IntKind} {x lo : Operand} {s : SL} {st : Store} {K : DV → Store → Prop}
    (h1 : T.sl t = some (e, sz)) (hx : ev (getS s) x = .d (.sc (.slice none 0 0))) (hl : ev (getS s) lo = .d (.sc (.int k 0))) (hk : K nilS st) : X.op (.slice t x (some lo) none none) s st K := by
  refine opL hX ?_
  simp only [opD, hx, sliceD, hT.sl _ _ h1, Option.map_some, hl, Option.map_none, boundD, intOfD]
  exact ⟨by simp, hk⟩
set_option maxRecDepth 100000 in
theorem w_insert0 (ds : List DV) (v w : Nat) (hds : ds.length = 3) :
    FnD Try.prog 26 [.view 3 0 v 0 0, .d (.sc (.int .i64 0)), .view 3 1 w 0 1] [⟨29, [], true, v, true⟩, ⟨29, ds, false, w, true⟩]
      (fun r st' => r = .view 3 0 (v + 1) 0 1 ∧ st' = [⟨29, ds, true, v + 1, true⟩, ⟨29, ds, false, w, true⟩]) := by
  refine FnD_cbv (T := fun _ => tabY [5000] []) (H := fun _ => []) (tabY_ok _ _) noK_ok follows_mixed Try.func26 rfl Try.ntmps26 (by simp) fun A X W hA hX hW => ?_
  cbv
  repeat' first
    | (refine part (fun h => ?_) (fun h => ?_) <;> try cbv)
    | (refine And.intro ?_ ?_)
  all_goals first
    | (subst hA; rfl)
    | (exfalso; subst hA; simp [A0] at *; done)
    | (subst hA hX hW
       simp only [A0, nc]
       refine RetW.refl ⟨rfl, ?_⟩
       simp only [Nat.one_mul, List.drop_zero, List.nil_append]
       rw [List.take_of_length_le (by omega)])
    | (subst hA; simp only [A0, nc]; simp; done)
    | (subst hA; simp only [A0, nc]; omega)
    | (exfalso; subst hA; simp_all [A0]; done)
set_option maxRecDepth 100000 in
theorem w_insertN (ds : List DV) (w : Nat) (i : Int) (hds : ds.length = 3) (hi : i = 0) :
    FnD Try.prog 26 [nilS, .d (.sc (.int .i64 i)), .view 3 0 w 0 1] [⟨29, ds, false, w, true⟩]
      (fun r st' => r = .view 3 1 0 0 1 ∧ st' = [⟨29, ds, false, w, true⟩, ⟨29, ds, true, 0, true⟩]) := by
  subst hi
  refine FnD_cbv (T := fun _ => tabY [] []) (H := fun _ => []) (tabY_ok _ _) noK_ok follows_mixed Try.func26 rfl Try.ntmps26 (by simp) fun A X W hA hX hW => ?_
  cbv
  refine nilSliceL hX tab_ok (sz := 3) (e := 29) rfl rfl rfl ?_
  cbv
  repeat' first
    | (refine part (fun h => ?_) (fun h => ?_) <;> try cbv)
    | (refine And.intro ?_ ?_)
  all_goals first
    | (subst hA; rfl)
    | (exfalso; subst hA; simp [A0] at *; done)
    | (subst hA hX hW
       simp only [A0, nc]
       refine RetW.refl ⟨rfl, ?_⟩
       simp only [Nat.one_mul, List.drop_zero, List.nil_append]
       rw [List.take_of_length_le (by omega)])
    | (subst hA; simp only [A0, nc]; simp; done)
    | (subst hA; simp only [A0, nc]; omega)
    | (exfalso; subst hA; simp_all [A0]; done)
theorem insR_end (cs ds : List DV) (n : Nat) (h : cs.length = n * 3) : insR cs ds (n : Int) = cs ++ ds := by
  simp only [insR, Int.toNat_natCast]
  rw [List.take_of_length_le (by omega), List.drop_eq_nil_of_le (by omega), List.append_nil]
/-- slices.Insert of one pair. -/
theorem w_ins (cs ds : List DV) (n k : Nat) (i : Int) (v w : Nat) (hcs : cs.length = n * 3) (hds : ds.length = 3) (hi : i = k) (h1 : k ≤ n) (hn : n ≤ 1000000) :
    FnD Try.prog 26 [.view 3 0 v 0 n, .d (.sc (.int .i64 i)), .view 3 1 w 0 1] [⟨29, cs, true, v, true⟩, ⟨29, ds, false, w, true⟩]
      (fun r st' => (r = .view 3 0 (v + 1) 0 (n + 1) ∧ st' = [⟨29, insR cs ds i, true, v + 1, true⟩, ⟨29, ds, false, w, true⟩]) ∨ (∃ st0, r = .view 3 2 0 0 (n + 1) ∧ st' = [⟨29, st0, false, v, true⟩, ⟨29, ds, false, w, true⟩, ⟨29, insR cs ds i, true, 0, true⟩])) := by
  rcases Nat.lt_or_ge k n with h | h
  · exact w_insert cs ds n k i v w hcs hds hi h hn
  · obtain rfl : k = n := by omega
    have e := insR_end cs ds k hcs
    rw [← hi] at e
    rw [e]
    cases k with
    | zero =>
      have hc : cs = [] := List.eq_nil_of_length_eq_zero (by omega)
      subst hc
      subst hi
      exact (w_insert0 ds v w hds).mono fun _ _ h => .inl h
    | succ k => exact (w_insertE cs ds (k + 1) i v w hcs hds hi (by omega) hn).mono fun _ _ h => .inl h
set_option maxRecDepth 100000 in
theorem w_clone (xs : List (List PD)) (hp0 : isP xs) : FnD Try.prog 25 [.d (.slc 3 xs)] [] (fun r st' => (xs = [] ∧ r = nilS ∧ st' = []) ∨ ∃ v m cs, cs = rowsD xs ∧ m = xs.length ∧ r = .view 3 0 v 0 m ∧ st' = [⟨29, cs, true, v, true⟩]) := by
  rcases xs with _ | ⟨x, xs⟩
  · refine FnD_cbv (T := fun _ => tabY [] []) (H := fun _ => []) (tabY_ok _ _) noK_ok follows_mixed Try.func25 rfl Try.ntmps25 (by simp) fun A X W hA hX hW => ?_
    cbv
    refine nilTestL hX tab_ok (sz := 3) (sz' := 3) (e := 29) rfl rfl ?_ ?_
    · cbv
      subst hA hX hW
      exact RetW.refl (.inl ⟨rfl, rfl, rfl⟩)
    · cbv
      subst hA hX hW
      refine ⟨rfl, rfl, ?_, ?_⟩
      · simp [A0]
      · exact RetW.refl (.inr ⟨1, 0, [], rfl, rfl, rfl, rfl⟩)
  · refine FnD_cbv (T := fun _ => tabY [] []) (H := fun _ => []) (tabY_ok _ _) noK_ok follows_mixed Try.func25 rfl Try.ntmps25 (by simp) fun A X W hA hX hW => ?_
    cbv
    subst hA hX hW
    refine ⟨rfl, rfl, ?_, ?_⟩
    · have := isP.len hp0
      simp only [A0]
      generalize (x :: xs).length = n at *
      omega
    · exact RetW.refl (.inr ⟨1, (x :: xs).length, rowsD (x :: xs), rfl, rfl, by simp [A0], rfl⟩)
/-- slices.Insert of one pair, the result in variables. -/
theorem w_ins2 (cs ds : List DV) (n k : Nat) (i : Int) (v w : Nat) (hcs : cs.length = n * 3) (hds : ds.length = 3) (hi : i = k) (h1 : k ≤ n) (hn : n ≤ 1000000) :
    FnD Try.prog 26 [.view 3 0 v 0 n, .d (.sc (.int .i64 i)), .view 3 1 w 0 1] [⟨29, cs, true, v, true⟩, ⟨29, ds, false, w, true⟩]
      (fun r st' => ∃ ics m' v', ics = insR cs ds i ∧ m' = n + 1 ∧ ((r = .view 3 0 v' 0 m' ∧ st' = [⟨29, ics, true, v', true⟩, ⟨29, ds, false, w, true⟩]) ∨ (∃ st0, r = .view 3 2 v' 0 m' ∧ st' = [⟨29, st0, false, v, true⟩, ⟨29, ds, false, w, true⟩, ⟨29, ics, true, v', true⟩]))) := by
  refine (w_ins cs ds n k i v w hcs hds hi h1 hn).mono ?_
  rintro r st (⟨rfl, rfl⟩ | ⟨st0, rfl, rfl⟩)
  · exact ⟨_, _, _, rfl, rfl, .inl ⟨rfl, rfl⟩⟩
  · exact ⟨_, _, _, rfl, rfl, .inr ⟨st0, rfl, rfl⟩⟩
theorem w_insertN2 (ds : List DV) (w : Nat) (i : Int) (hds : ds.length = 3) (hi : i = 0) :
    FnD Try.prog 26 [nilS, .d (.sc (.int .i64 i)), .view 3 0 w 0 1] [⟨29, ds, false, w, true⟩]
      (fun r st' => ∃ ics m' v', ics = ds ∧ m' = 1 ∧ v' = 0 ∧ r = .view 3 1 v' 0 m' ∧ st' = [⟨29, ds, false, w, true⟩, ⟨29, ics, true, v', true⟩]) := by
  refine (w_insertN ds w i hds hi).mono ?_
  rintro r st ⟨rfl, rfl⟩
  exact ⟨_, _, _, rfl, rfl, rfl, rfl, rfl⟩

end Go.Proofs.Ytbceikkjogbgeaa
