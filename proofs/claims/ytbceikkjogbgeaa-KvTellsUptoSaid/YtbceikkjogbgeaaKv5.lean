/- A pair taken out of a list: what kv.Delete gives. No condition. -/
import Derived.Test.YtbceikkjogbgeaaKv4
namespace Go.Proofs.Ytbceikkjogbgeaa
open Go.RowKit
set_option linter.all false

theorem w_del2 (cs : List DV) (n k : Nat) (i j : Int) (v : Nat) (hcs : cs.length = n * 3) (hi : i = k) (hj : j = (k + 1 : Nat)) (h1 : k < n) (hn : n ≤ 4194304) :
    FnD Try.prog 27 [.view 3 0 v 0 n, .d (.sc (.int .i64 i)), .d (.sc (.int .i64 j))] [⟨29, cs, true, v, true⟩]
      (fun r st' => ∃ ics m' v', ics = delR cs k ∧ m' = n - 1 ∧ r = .view 3 0 v' 0 m' ∧ st' = [⟨29, ics, true, v', true⟩]) := by
  rcases Nat.lt_or_ge (k + 1) n with h | h
  · refine (w_delete cs n k i j v hcs hi hj h hn).mono ?_
    rintro r st ⟨rfl, rfl⟩
    exact ⟨_, _, _, rfl, rfl, rfl, rfl⟩
  · refine (w_deleteE cs n k i j v hcs hi hj (by omega) hn).mono ?_
    rintro r st ⟨rfl, rfl⟩
    exact ⟨_, _, _, rfl, rfl, rfl, rfl⟩
/-- A pair taken out. -/
def delP (xs : List (List PD)) (i : Nat) : List (List PD) := xs.take i ++ xs.drop (i + 1)
def delX (xs : List (List PD)) (key : ByteArray) : List (List PD) × Bool :=
  if (findX xs key).2 = true then (delP xs (findX xs key).1.toNat, true) else (xs, false)
theorem isP.del {xs : List (List PD)} (h : isP xs) (i : Nat) : isP (delP xs i) := by
  obtain ⟨ps, rfl, hl⟩ := h
  refine ⟨ps.take i ++ ps.drop (i + 1), by simp [delP, pairsX, List.map_take, List.map_drop], ?_⟩
  simp only [List.length_append, List.length_take, List.length_drop]
  omega
theorem delP_len {xs : List (List PD)} {i : Nat} (hi : i < xs.length) : (delP xs i).length = xs.length - 1 := by
  simp only [delP, List.length_append, List.length_take, List.length_drop]; omega
theorem delR_rows {xs : List (List PD)} (h : ∀ x ∈ xs, x.length = 3) (i : Nat) (hi : i < xs.length) : delR (rowsD xs) (i : Int) = rowsD (delP xs i) := by
  have e : rowsD xs = rowsD (xs.take i) ++ rowsD (xs.drop i) := by rw [← rowsD_append, List.take_append_drop]
  have e2 : rowsD xs = rowsD (xs.take (i + 1)) ++ rowsD (xs.drop (i + 1)) := by rw [← rowsD_append, List.take_append_drop]
  have hl := take_len h i (by omega)
  have hl2 := take_len h (i + 1) hi
  simp only [delR, Int.toNat_natCast, delP, rowsD_append]
  congr 1
  · rw [e, List.take_append_of_le_length (by omega), List.take_of_length_le (by omega)]
  · rw [e2, List.drop_append_of_le_length (by omega), List.drop_eq_nil_of_le (by omega), List.nil_append]
theorem upd2b {sz : Nat} {p : PD} : UpD (.tup [.d (.sc (.slice none 0 0)), .d p]) (.tup [.d (.slc sz []), .d p]) := upd2

structure FsDl where
  del : List (List PD) → ByteArray → List (List PD) × Bool
  isP : List (List PD) → Prop
def FsDl0 : FsDl where
  del := delX
  isP := isP
set_option maxRecDepth 100000 in
theorem v_del (xs : List (List PD)) (key : ByteArray) (hp0 : FsDl0.isP xs) : FnV Try.prog 10 [.d (.slc 3 xs), strD key] (.tup [.d (.slc 3 ((delX xs key)).1), boolD (((delX xs key)).2)]) := by
  have hr := findX_range xs key
  have hsz := hp0.sz
  obtain ⟨GFsP, hGFsP⟩ : ∃ F, F = FsP0 := ⟨_, rfl⟩
  have hH : SoundK Try.prog [kn_find GFsP] := by subst hGFsP; exact orK_ok ok_find noK_ok
  refine FnD_cbv (T := fun _ => tabY [] []) (H := fun _ => [kn_find GFsP]) (tabY_ok _ _) hH follows_mixed Try.func10 rfl Try.ntmps10 (by simp) fun A X W hA hX hW => ?_
  clear hH
  cbv
  repeat' first
    | (refine part (fun h => ?_) (fun h => ?_) <;> try cbv)
    | (refine And.intro ?_ ?_)
  all_goals try
    refine callL hX ((w_clone xs hp0).mono ?_)
    rintro r st (⟨hx, rfl, rfl⟩ | ⟨v, m, cs, hcs, hm, rfl, rfl⟩) <;> cbv
  repeat' first
    | (refine part (fun h => ?_) (fun h => ?_) <;> try cbv)
    | (refine And.intro ?_ ?_)
  all_goals try
    refine callL hX ((w_del2 cs m ((findX xs key).1.toNat) _ _ v ?_ ?_ ?_ ?_ ?_).mono ?_)
    rotate_left 5
    rintro r st ⟨ics, m', v', hics, hm', rfl, rfl⟩ <;> cbv
    rotate_left 5
  repeat' first
    | (refine part (fun h => ?_) (fun h => ?_) <;> try cbv)
    | (refine And.intro ?_ ?_)
  all_goals subst hA hX hW hGFsP
  all_goals try clear hH
  all_goals simp only [A0, nc, FsP0, Bool.not_eq_true', Bool.not_eq_false'] at *
  all_goals have e0 : xs = [] → (findX xs key).1 = 0 ∧ (findX xs key).2 = false := by rintro rfl; exact ⟨rfl, rfl⟩
  all_goals try unfold delX
  all_goals generalize findX xs key = q at *
  all_goals obtain ⟨i0, ok⟩ := q
  all_goals simp only at *
  all_goals obtain ⟨k, rfl⟩ : ∃ k : Nat, i0 = k := ⟨i0.toNat, by omega⟩
  all_goals have hk : k ≤ xs.length := by omega
  all_goals have hk2 : ok = true → k < xs.length := fun h => by have := hr.2.2 h; omega
  all_goals try simp only [Int.toNat_natCast, Nat.zero_add]
  all_goals first
    | assumption
    | (simp; done)
    | (simp_all; done)
    | skip
  all_goals first
    | (subst hcs hm; rw [rowsD_len hp0.sz]; done)
    | (subst hcs hm; have := hp0.len; omega)
    | (have hh := ‹ok = true›
       have h1 := hk2 hh
       have h2 := hp0.len
       rw [wrap_i64 (by unfold r64; omega)]
       omega)
    | (have hh := ‹ok = false›
       rw [if_neg (by rw [hh]; simp)]
       first
         | (subst hx; exact ret_up upd2 rfl)
         | (refine ret_slice2 (xs := xs) rfl rfl rfl hm hcs hsz rfl))
    | (have hh := ‹ok = true›
       have hky := hk2 hh
       rw [if_pos hh]
       subst hm
       refine ret_slice2 (xs := delP xs k) rfl rfl rfl ?_ ?_ ?_ rfl
       · rw [delP_len hky]; exact hm'
       · rw [hics, hcs]; exact delR_rows hsz k hky
       · exact (hp0.del k).sz)

def kn_del (F : FsDl) : FuncId × (List DV → RV) := (10, fun args => match args with
  | [.d (.slc 3 xs), .d (.sc (.string key))] => some ([F.isP xs], .tup [.d (.slc 3 ((F.del xs key)).1), boolD (((F.del xs key)).2)])
  | [.d (.sc (.slice none 0 0)), .d (.sc (.string key))] => some ([F.isP []], .tup [.d (.slc 3 ((F.del [] key)).1), boolD (((F.del [] key)).2)])
  | _ => none)
theorem ok_del (args : List DV) (cs : List Prop) (r : DV) (h : (kn_del FsDl0).2 args = some (cs, r)) (hc : allP cs True) : FnV Try.prog 10 args r ∧ closedL 0 args = true := by
  unfold kn_del at h
  simp only at h
  split at h
  · cases h; exact ⟨v_del _ _ hc.1, rfl⟩
  · cases h; exact ⟨FnP.nils (v_del [] _ hc.1) ⟨.inr ⟨rfl, _, rfl⟩, ⟨.inl rfl, trivial⟩⟩, rfl⟩
  · cases h
end Go.Proofs.Ytbceikkjogbgeaa
