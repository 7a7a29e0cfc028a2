/- slices.Insert of one file, slices.Delete of one: what they do. No condition. -/
import Derived.Test.YtmjmbfcfnhnpmaaAm42
import Derived.Test.YtmjmbfcfnhnpmaaTy
import Derived.Test.YtmjmbfcfnhnpmaaOrd
import Derived.Test.YtmjmbfcfnhnpmaaAm31
import Derived.Test.YtmjmbfcfnhnpmaaAm33
import Derived.Test.YtmjmbfcfnhnpmaaAm41
import Derived.Test.YtmjmbfcfnhnpmaaUp13
namespace Go.Proofs.Ytmjmbfcfnhnpmaa
open Go.RowKit
set_option linter.all false
theorem exV {P : Program} {N : Nat} {X : Cps} (hX : X = X0 P N) {f : FuncId} (hf : OvlF P f) {s b v o n s' b' v' o' n' : Nat} {bx bx' : Box} {st : Store} {K : DV → Store → Prop} (hb : st[b]? = some bx) (hb' : st[b']? = some bx') (h1 : v = bx.ver) (h2 : v' = bx'.ver) (h3 : bx.live = true) (h4 : bx'.live = true) (h5 : b ≠ b')
    (h6 : bx'.cells ≠ []) (hk : K (boolD false) st) : X.ex f [.view s b v o n, .view s' b' v' o' n'] st K := by
  subst hX
  refine ⟨hf, ?_⟩
  simp only [hb, hb']
  exact ⟨h1, h2, h3, h4, h5, h6, hk⟩
theorem ovl_file : OvlF Try.prog 48 := ⟨Try.f48, 57, 4, 65, Try.func48, by kernel_rfl, by kernel_rfl, by kernel_rfl, by kernel_rfl, by kernel_rfl, by kernel_rfl⟩
def insR (cs ds : List DV) (i : Int) : List DV := cs.take (i.toNat * 3) ++ ds ++ cs.drop (i.toNat * 3)
theorem flat3 (z : List DV) (hz : z.length = 3) (m : Nat) : (List.replicate m z).flatten.length = m * 3 := by
  rw [List.length_flatten]; simp [hz]
theorem ins_grow (cs ds z : List DV) (n k x : Nat) (hcs : cs.length = n * 3) (hds : ds.length = 3) (hz : z.length = 3) (hk : k < n) :
    splice (splice ((cs ++ List.replicate x DV.any).take (k * 3) ++ (List.replicate (n + 1 - k) z).flatten) (k * 3) ds) ((k + 1) * 3) (((cs ++ List.replicate x DV.any).drop (k * 3)).take ((n - k) * 3)) = insR cs ds (k : Int) := by
  have h1 : ((cs ++ List.replicate x DV.any).take (k * 3) ++ (List.replicate (n + 1 - k) z).flatten).length = (n + 1) * 3 := by
    rw [List.length_append, flat3 z hz]; simp [hcs]; omega
  have h2 : (((cs ++ List.replicate x DV.any).drop (k * 3)).take ((n - k) * 3)).length = (n - k) * 3 := by simp [hcs]; omega
  have h3 : (splice ((cs ++ List.replicate x DV.any).take (k * 3) ++ (List.replicate (n + 1 - k) z).flatten) (k * 3) ds).length = (n + 1) * 3 := by
    rw [splice_length _ _ _ (by rw [h1, hds]; omega), h1]
  apply List.ext_getElem?
  intro j
  rw [splice, splice_get _ _ _ (by rw [h2, h3]; omega), splice, splice_get _ _ _ (by rw [h1, hds]; omega)]
  simp only [insR, Int.toNat_natCast, h2, hds]
  by_cases c1 : j < k * 3
  · rw [if_neg (by omega), if_neg (by omega), List.append_assoc, List.getElem?_append_left (by simp [hcs]; omega), List.getElem?_append_left (by simp [hcs]; omega), List.getElem?_take, List.getElem?_take, if_pos c1, if_pos c1, List.getElem?_append_left (by omega)]
  by_cases c2 : j < (k + 1) * 3
  · rw [if_neg (by omega), if_pos (by omega), List.append_assoc, List.getElem?_append_right (by simp [hcs]; omega), List.getElem?_append_left (by simp [hcs, hds]; omega)]
    congr 1
    simp [hcs]; omega
  by_cases c3 : j < (n + 1) * 3
  · rw [if_pos (by omega), List.getElem?_take, if_pos (by omega), List.getElem?_drop, List.getElem?_append_left (by omega), List.append_assoc, List.getElem?_append_right (by simp [hcs]; omega), List.getElem?_append_right (by simp [hcs, hds]; omega), List.getElem?_drop]
    congr 1
    simp [hcs, hds]; omega
  · rw [if_neg (by omega), if_neg (by omega), List.getElem?_eq_none (by rw [h1]; omega), List.getElem?_eq_none (by simp [hcs, hds]; omega)]
theorem ins_room (cs ds : List DV) (n k x : Nat) (hcs : cs.length = n * 3) (hds : ds.length = 3) (hk : k < n) (hx : 3 ≤ x) :
    (splice (splice (cs ++ List.replicate x DV.any) ((k + 1) * 3) (((cs ++ List.replicate x DV.any).drop (k * 3)).take ((n - k) * 3))) (k * 3) ds).take ((n + 1) * 3) = insR cs ds (k : Int) := by
  have h1 : (cs ++ List.replicate x DV.any).length = n * 3 + x := by simp [hcs]
  have h2 : (((cs ++ List.replicate x DV.any).drop (k * 3)).take ((n - k) * 3)).length = (n - k) * 3 := by simp [hcs]; omega
  have h3 : (splice (cs ++ List.replicate x DV.any) ((k + 1) * 3) (((cs ++ List.replicate x DV.any).drop (k * 3)).take ((n - k) * 3))).length = n * 3 + x := by
    rw [splice_length _ _ _ (by rw [h1, h2]; omega), h1]
  apply List.ext_getElem?
  intro j
  rw [List.getElem?_take, splice, splice_get _ _ _ (by rw [h3, hds]; omega), splice, splice_get _ _ _ (by rw [h1, h2]; omega)]
  simp only [insR, Int.toNat_natCast, h2, hds]
  by_cases c1 : j < k * 3
  · rw [if_pos (by omega), if_neg (by omega), if_neg (by omega), List.append_assoc, List.getElem?_append_left (by omega), List.getElem?_append_left (by simp [hcs]; omega), List.getElem?_take, if_pos c1]
  by_cases c2 : j < (k + 1) * 3
  · rw [if_pos (by omega), if_pos (by omega), List.append_assoc, List.getElem?_append_right (by simp [hcs]; omega), List.getElem?_append_left (by simp [hcs, hds]; omega)]
    congr 1
    simp [hcs]; omega
  by_cases c3 : j < (n + 1) * 3
  · rw [if_pos (by omega), if_neg (by omega), if_pos (by omega), List.getElem?_take, if_pos (by omega), List.getElem?_drop, List.getElem?_append_left (by omega), List.append_assoc, List.getElem?_append_right (by simp [hcs]; omega), List.getElem?_append_right (by simp [hcs, hds]; omega), List.getElem?_drop]
    congr 1
    simp [hcs, hds]; omega
  · rw [if_neg (by omega), List.getElem?_eq_none (by simp [hcs, hds]; omega)]
def delR (cs : List DV) (i : Int) : List DV := cs.take (i.toNat * 3) ++ cs.drop (i.toNat * 3 + 3)
theorem del_room (cs z : List DV) (n k x : Nat) (hcs : cs.length = n * 3) (hz : z.length = 3) (hk : k < n) :
    (splice (splice (cs ++ List.replicate x DV.any) (k * 3) (((cs ++ List.replicate x DV.any).drop ((k + 1) * 3)).take ((n - (k + 1)) * 3))) ((n - 1) * 3) (List.replicate 1 z).flatten).take ((n - 1) * 3) = delR cs (k : Int) := by
  have h1 : (cs ++ List.replicate x DV.any).length = n * 3 + x := by simp [hcs]
  have h2 : (((cs ++ List.replicate x DV.any).drop ((k + 1) * 3)).take ((n - (k + 1)) * 3)).length = (n - (k + 1)) * 3 := by simp [hcs]; omega
  have h3 : (splice (cs ++ List.replicate x DV.any) (k * 3) (((cs ++ List.replicate x DV.any).drop ((k + 1) * 3)).take ((n - (k + 1)) * 3))).length = n * 3 + x := by
    rw [splice_length _ _ _ (by rw [h1, h2]; omega), h1]
  have h4 := flat3 z hz 1
  apply List.ext_getElem?
  intro j
  rw [List.getElem?_take, splice, splice_get _ _ _ (by rw [h3, h4]; omega), splice, splice_get _ _ _ (by rw [h1, h2]; omega)]
  simp only [delR, Int.toNat_natCast, h2, h4]
  by_cases c1 : j < k * 3
  · rw [if_pos (by omega), if_neg (by omega), if_neg (by omega), List.getElem?_append_left (by omega), List.getElem?_append_left (by simp [hcs]; omega), List.getElem?_take, if_pos c1]
  by_cases c3 : j < (n - 1) * 3
  · rw [if_pos (by omega), if_neg (by omega), if_pos (by omega), List.getElem?_take, if_pos (by omega), List.getElem?_drop, List.getElem?_append_left (by omega), List.getElem?_append_right (by simp [hcs]; omega), List.getElem?_drop]
    congr 1
    simp [hcs]; omega
  · rw [if_neg (by omega), List.getElem?_eq_none (by simp [hcs]; omega)]
set_option maxRecDepth 100000 in
set_option maxHeartbeats 8000000 in
theorem w_insert (cs ds : List DV) (n k : Nat) (i : Int) (v w : Nat) (hcs : cs.length = n * 3) (hds : ds.length = 3) (hi : i = k) (h1 : k < n) (hn : n ≤ 1000000) :
    FnD Try.prog 32 [.view 3 0 v 0 n, .d (.sc (.int .i64 i)), .view 3 1 w 0 1] [⟨65, cs, true, v, true⟩, ⟨65, ds, false, w, true⟩]
      (fun r st' => (r = .view 3 0 (v + 1) 0 (n + 1) ∧ st' = [⟨65, insR cs ds i, true, v + 1, true⟩, ⟨65, ds, false, w, true⟩]) ∨ (∃ st0, r = .view 3 2 0 0 (n + 1) ∧ st' = [⟨65, st0, false, v, true⟩, ⟨65, ds, false, w, true⟩, ⟨65, insR cs ds i, true, 0, true⟩])) := by
  refine FnD.reveal 0 3 n _ rfl rfl (by simp) hcs fun c hc => ?_
  obtain ⟨cs', hcs'⟩ : ∃ x, x = cs ++ List.replicate ((c - n) * 3) DV.any := ⟨_, rfl⟩
  have hlen : cs'.length = c * 3 := by rw [hcs', List.length_append, List.length_replicate, hcs]; omega
  show FnD Try.prog 32 [.view 3 0 v 0 n, .d (.sc (.int .i64 i)), .view 3 1 w 0 1] [⟨65, cs ++ List.replicate ((c - n) * 3) DV.any, false, v, true⟩, ⟨65, ds, false, w, true⟩] _
  rw [← hcs']
  refine FnD_cbv (T := fun _ => tabY [5000] []) (H := fun _ => []) (tabY_ok _ _) noK_ok follows_mixed Try.func32 rfl Try.ntmps32 (by simp) fun A X W hA hX hW => ?_
  cbv
  repeat' first
    | (refine part (fun h => ?_) (fun h => ?_) <;> try cbv)
    | (refine And.intro ?_ ?_)
    | (refine exV hX ovl_file rfl rfl rfl rfl rfl rfl (by decide) ?_ ?_) <;> try cbv
  all_goals subst hA hX hW hi
  all_goals simp only [A0, nc, decide_eq_true_eq, decide_eq_false_iff_not, Bool.not_eq_true', Bool.not_eq_false'] at *
  all_goals have e1 : IntKind.wrap .i64 ((n : Int) + ((1 : Nat) : Int)) = ((n + 1 : Nat) : Int) := by rw [IntKind.wrap_i64]; omega
  all_goals have e2 : IntKind.wrap .i64 (((n + 1 : Nat) : Int) - (k : Int)) = ((n + 1 - k : Nat) : Int) := by rw [IntKind.wrap_i64]; omega
  all_goals have e3 : IntKind.wrap .i64 ((k : Int) + ((1 : Nat) : Int)) = ((k + 1 : Nat) : Int) := by rw [IntKind.wrap_i64]; omega
  all_goals have f2 : n ≠ k := by omega
  all_goals try simp only [e1, e2, e3, Int.toNat_natCast, Nat.zero_add, show Int.toNat 0 = 0 from rfl, Nat.zero_mul, List.drop_zero, Nat.sub_zero]
  all_goals have m1 : min 1 (n + 1 - k) = 1 := by omega
  all_goals have m2 : min (n - k) (n + 1 - (k + 1)) = n - k := by omega
  all_goals have m3 : min (n + 1 - k) (n + 1 - (k + 1)) = n - k := by omega
  all_goals have m4 : k + (n + 1 - k) = n + 1 := by omega
  all_goals have t1 : ds.take (1 * 3) = ds := List.take_of_length_le (by omega)
  all_goals have fl : ([DV.d (.sc (.string { data := { toList := [] } })), DV.d (.sc (.slice none 0 0)), DV.d (.sc (.int .i64 0))] : List DV).length = 3 := rfl
  all_goals have f3 := flat3 _ fl (n + 1 - k)
  all_goals try simp only [m1, m2, m3, m4, t1]
  all_goals first
    | rfl
    | assumption
    | omega
    | (exfalso; simp_all; done)
    | (exfalso; omega)
    | (show Region.lexB _ _ = true; kernel_rfl)
    | (show turnsB _ = true; kernel_rfl)
    | exact ⟨⟨by omega, by omega⟩, .inl (by omega), .inr (.inl (by omega))⟩
    | (refine ⟨⟨by omega, by omega⟩, ?_, ?_⟩ <;> first | exact .inl (by omega) | exact .inr (.inl (by omega)) | exact .inr ⟨rfl, by omega⟩ | exact .inr (.inr ⟨rfl, by omega⟩))
    | (intro e; rw [e] at hlen; simp at hlen; omega)
    | (simp only [List.length_append, f3, List.length_take]; omega)
    | (refine ⟨⟨by omega, by omega⟩, ?_, ?_⟩ <;> first | exact .inl (by omega) | exact .inr (.inl (by omega)) | exact .inr ⟨trivial, by omega⟩ | exact .inr (.inr ⟨trivial, by omega⟩))
    | (simp only [splice, List.length_append, f3, List.length_take, List.length_drop]; omega)
    | (refine RetW.refl (.inr ⟨cs', rfl, ?_⟩)
       rw [List.take_take, Nat.min_self, hcs', ins_grow cs ds _ n k _ hcs hds fl h1]
       done)
    | (refine ret_hide 0 ((n + 1) * 3) _ rfl ?_
       refine ret_bump rfl (RetW.refl (.inl ⟨rfl, ?_⟩))
       rw [List.take_take, Nat.min_eq_left (show (n - k) * 3 ≤ (n + 1 - k) * 3 by omega), hcs']
       simp only [List.set_cons_zero, ins_room cs ds n k _ hcs hds h1 (show 3 ≤ (c - n) * 3 by omega)]
       done)
set_option maxRecDepth 100000 in
set_option maxHeartbeats 8000000 in
theorem w_insertE (cs ds : List DV) (n : Nat) (i : Int) (v w : Nat) (hcs : cs.length = n * 3) (hds : ds.length = 3) (hi : i = n) (h0 : 0 < n) (hn : n ≤ 1000000) :
    FnD Try.prog 32 [.view 3 0 v 0 n, .d (.sc (.int .i64 i)), .view 3 1 w 0 1] [⟨65, cs, true, v, true⟩, ⟨65, ds, false, w, true⟩]
      (fun r st' => r = .view 3 0 (v + 1) 0 (n + 1) ∧ st' = [⟨65, cs ++ ds, true, v + 1, true⟩, ⟨65, ds, false, w, true⟩]) := by
  refine FnD_cbv (T := fun _ => tabY [5000, 5002] []) (H := fun _ => []) (tabY_ok _ _) noK_ok follows_mixed Try.func32 rfl Try.ntmps32 (by simp) fun A X W hA hX hW => ?_
  cbv
  refine And.intro ?_ (And.intro ?_ (And.intro ?_ (And.intro ?_ ?_)))
  · subst hA; simp only [A0]
  · subst hA hi; simp only [A0]
  · subst hA; simp only [A0]; exact h0
  · subst hA; simp only [A0]
  refine part (fun h => ?_) (fun h => ?_)
  · subst hA
    simp [A0] at h
  cbv
  refine And.intro (by subst hA; simp only [A0]) ?_
  refine part (fun h => ?_) (fun h => ?_)
  rotate_left
  · subst hA hi
    simp [A0] at h
  cbv
  subst hA hX hW hi
  simp only [A0, nc]
  refine ⟨trivial, by omega, trivial, by omega, by omega, RetW.refl ⟨rfl, ?_⟩⟩
  simp only [Nat.one_mul, List.drop_zero]
  rw [List.take_of_length_le (by omega)]
set_option maxRecDepth 100000 in
set_option maxHeartbeats 8000000 in
theorem w_delete (cs : List DV) (n k : Nat) (i j : Int) (v : Nat) (hcs : cs.length = n * 3) (hi : i = k) (hj : j = (k + 1 : Nat)) (h1 : k + 1 < n) (hn : n ≤ 4194304) :
    FnD Try.prog 36 [.view 3 0 v 0 n, .d (.sc (.int .i64 i)), .d (.sc (.int .i64 j))] [⟨65, cs, true, v, true⟩]
      (fun r st' => r = .view 3 0 (v + 1) 0 (n - 1) ∧ st' = [⟨65, delR cs k, true, v + 1, true⟩]) := by
  refine FnD.reveal 0 3 n _ rfl rfl (by simp) hcs fun c hc => ?_
  obtain ⟨cs', hcs'⟩ : ∃ x, x = cs ++ List.replicate ((c - n) * 3) DV.any := ⟨_, rfl⟩
  have hlen : cs'.length = c * 3 := by rw [hcs', List.length_append, List.length_replicate, hcs]; omega
  show FnD Try.prog 36 [.view 3 0 v 0 n, .d (.sc (.int .i64 i)), .d (.sc (.int .i64 j))] [⟨65, cs ++ List.replicate ((c - n) * 3) DV.any, false, v, true⟩] _
  rw [← hcs']
  refine FnD_cbv (T := fun _ => tabY [5000, 5001] []) (H := fun _ => []) (tabY_ok _ _) noK_ok follows_mixed Try.func36 rfl Try.ntmps36 (by simp) fun A X W hA hX hW => ?_
  cbv
  repeat' first
    | (refine part (fun h => ?_) (fun h => ?_) <;> try cbv)
    | (refine And.intro ?_ ?_)
  all_goals subst hA hX hW hi hj
  all_goals simp only [A0, nc, decide_eq_true_eq, decide_eq_false_iff_not, Bool.not_eq_true', Bool.not_eq_false'] at *
  all_goals have m1 : k + (n - (k + 1)) = n - 1 := by omega
  all_goals have m2 : ((n - 1 : Nat) : Int) = (n : Int) - 1 := by omega
  all_goals try simp only [m1, Int.toNat_natCast, Nat.zero_add, show Int.toNat 0 = 0 from rfl, Nat.zero_mul, List.drop_zero, Nat.sub_zero]
  all_goals have fl : ([DV.d (.sc (.string { data := { toList := [] } })), DV.d (.sc (.slice none 0 0)), DV.d (.sc (.int .i64 0))] : List DV).length = 3 := rfl
  all_goals have m3 : n - (n - 1) = 1 := by omega
  all_goals have f3 := flat3 _ fl 1
  all_goals have f4 : (splice cs' (k * 3) (List.take ((n - (k + 1)) * 3) (List.drop ((k + 1) * 3) cs'))).length = c * 3 := by rw [splice_length _ _ _ (by simp; omega), hlen]
  all_goals try simp only [m3, f4]
  all_goals first
    | rfl
    | assumption
    | omega
    | (exfalso; simp_all; done)
    | (exfalso; omega)
    | (show Region.lexB _ _ = true; kernel_rfl)
    | (show turnsB _ = true; kernel_rfl)
    | exact ⟨by omega, by omega, by omega, by omega⟩
    | (refine ⟨⟨by omega, by omega⟩, ?_, ?_⟩ <;> first | exact .inl (by omega) | exact .inr (.inl (by omega)) | exact .inr ⟨trivial, by omega⟩ | exact .inr (.inr ⟨trivial, by omega⟩))
    | (simp only [splice, List.length_append, f3, List.length_take, List.length_drop]; omega)
    | (refine ret_hide 0 ((n - 1) * 3) _ rfl ?_
       refine ret_bump rfl (RetW.refl ⟨rfl, ?_⟩)
       simp only [List.set_cons_zero, hcs', del_room cs _ n k _ hcs fl (show k < n by omega)]
       done)
theorem delE_room (cs z : List DV) (n k x : Nat) (hcs : cs.length = n * 3) (hz : z.length = 3) (hk : k + 1 = n) :
    (splice (splice (cs ++ List.replicate x DV.any) (k * 3) (rowsD [])) ((n - 1) * 3) (List.replicate 1 z).flatten).take ((n - 1) * 3) = delR cs (k : Int) := by
  have e : rowsD [] = [] := rfl
  rw [e, splice_nil]
  have h1 : (cs ++ List.replicate x DV.any).length = n * 3 + x := by simp [hcs]
  have h4 := flat3 z hz 1
  apply List.ext_getElem?
  intro j
  rw [List.getElem?_take, splice, splice_get _ _ _ (by rw [h1, h4]; omega)]
  simp only [delR, Int.toNat_natCast, h4]
  by_cases c1 : j < k * 3
  · rw [if_pos (by omega), if_neg (by omega), List.getElem?_append_left (by omega), List.getElem?_append_left (by simp [hcs]; omega), List.getElem?_take, if_pos c1]
  · rw [if_neg (by omega), List.getElem?_eq_none (by simp [hcs]; omega)]
set_option maxRecDepth 100000 in
set_option maxHeartbeats 8000000 in
theorem w_deleteE (cs : List DV) (n k : Nat) (i j : Int) (v : Nat) (hcs : cs.length = n * 3) (hi : i = k) (hj : j = (k + 1 : Nat)) (h1 : k + 1 = n) (hn : n ≤ 4194304) :
    FnD Try.prog 36 [.view 3 0 v 0 n, .d (.sc (.int .i64 i)), .d (.sc (.int .i64 j))] [⟨65, cs, true, v, true⟩]
      (fun r st' => r = .view 3 0 (v + 1) 0 (n - 1) ∧ st' = [⟨65, delR cs k, true, v + 1, true⟩]) := by
  refine FnD.reveal 0 3 n _ rfl rfl (by simp) hcs fun c hc => ?_
  obtain ⟨cs', hcs'⟩ : ∃ x, x = cs ++ List.replicate ((c - n) * 3) DV.any := ⟨_, rfl⟩
  have hlen : cs'.length = c * 3 := by rw [hcs', List.length_append, List.length_replicate, hcs]; omega
  show FnD Try.prog 36 [.view 3 0 v 0 n, .d (.sc (.int .i64 i)), .d (.sc (.int .i64 j))] [⟨65, cs ++ List.replicate ((c - n) * 3) DV.any, false, v, true⟩] _
  rw [← hcs']
  refine FnD_cbv (T := fun _ => tabY [5000, 5001, 5002] []) (H := fun _ => []) (tabY_ok _ _) noK_ok follows_mixed Try.func36 rfl Try.ntmps36 (by simp) fun A X W hA hX hW => ?_
  cbv
  repeat' first
    | (refine part (fun h => ?_) (fun h => ?_) <;> try cbv)
    | (refine And.intro ?_ ?_)
  all_goals subst hA hX hW hi hj
  all_goals simp only [A0, nc, decide_eq_true_eq, decide_eq_false_iff_not, Bool.not_eq_true', Bool.not_eq_false'] at *
  all_goals have m1 : k + ([] : List (List PD)).length = n - 1 := by simp; omega
  all_goals have m2 : ((n - 1 : Nat) : Int) = (n : Int) - 1 := by omega
  all_goals try simp only [m1, Int.toNat_natCast, Nat.zero_add, show Int.toNat 0 = 0 from rfl, Nat.zero_mul, List.drop_zero, Nat.sub_zero]
  all_goals have fl : ([DV.d (.sc (.string { data := { toList := [] } })), DV.d (.sc (.slice none 0 0)), DV.d (.sc (.int .i64 0))] : List DV).length = 3 := rfl
  all_goals have m3 : n - (n - 1) = 1 := by omega
  all_goals have f3 := flat3 _ fl 1
  all_goals have f4 : (splice cs' (k * 3) (rowsD [])).length = c * 3 := by rw [splice_length _ _ _ (by simp [rowsD]; omega), hlen]
  all_goals try simp only [m3, f4]
  all_goals first
    | rfl
    | assumption
    | omega
    | (exfalso; simp_all; done)
    | (exfalso; omega)
    | (show Region.lexB _ _ = true; kernel_rfl)
    | (show turnsB _ = true; kernel_rfl)
    | exact ⟨by omega, by omega, by omega, by omega⟩
    | (refine ⟨⟨by omega, by omega⟩, ?_, ?_⟩ <;> first | exact .inl (by omega) | exact .inr (.inl (by omega)) | exact .inr ⟨trivial, by omega⟩ | exact .inr (.inr ⟨trivial, by omega⟩))
    | (simp only [splice, List.length_append, f3, List.length_take, List.length_drop]; omega)
    | (refine ret_hide 0 ((n - 1) * 3) _ rfl ?_
       refine ret_bump rfl (RetW.refl ⟨rfl, ?_⟩)
       simp only [List.set_cons_zero, hcs', delE_room cs _ n k _ hcs fl h1]
       done)
/-- Nothing's part from its beginning. -/
theorem nilSliceL {P : Program} {N : Nat} {X : Cps} (hX : X = X0 P N) {T : Tab} (hT : TabOk P T) {t sz e : Nat} {k : IntKind} {x lo : Operand} {s : SL} {st : Store} {K : DV → Store → Prop}
    (h1 : T.sl t = some (e, sz)) (hx : ev (getS s) x = .d (.sc (.slice none 0 0))) (hl : ev (getS s) lo = .d (.sc (.int k 0))) (hk : K nilS st) : X.op (.slice t x (some lo) none none) s st K := by
  refine opL hX ?_
  simp only [opD, hx, sliceD, hT.sl _ _ h1, Option.map_some, hl, Option.map_none, boundD, intOfD]
  exact ⟨by simp, hk⟩
set_option maxRecDepth 100000 in
theorem w_insert0 (ds : List DV) (v w : Nat) (hds : ds.length = 3) :
    FnD Try.prog 32 [.view 3 0 v 0 0, .d (.sc (.int .i64 0)), .view 3 1 w 0 1] [⟨65, [], true, v, true⟩, ⟨65, ds, false, w, true⟩]
      (fun r st' => r = .view 3 0 (v + 1) 0 1 ∧ st' = [⟨65, ds, true, v + 1, true⟩, ⟨65, ds, false, w, true⟩]) := by
  refine FnD_cbv (T := fun _ => tabY [5000] []) (H := fun _ => []) (tabY_ok _ _) noK_ok follows_mixed Try.func32 rfl Try.ntmps32 (by simp) fun A X W hA hX hW => ?_
  cbv
  repeat' first
    | (refine part (fun h => ?_) (fun h => ?_) <;> try cbv)
    | (refine And.intro ?_ ?_)
  all_goals first
    | (subst hA; rfl)
    | (exfalso; subst hA; simp [A0] at *; done)
    | (subst hA hX hW
       simp only [A0, nc]
       refine RetW.refl ⟨rfl, ?_⟩
       simp only [Nat.one_mul, List.drop_zero, List.nil_append]
       rw [List.take_of_length_le (by omega)])
    | (subst hA; simp only [A0, nc]; simp; done)
    | (subst hA; simp only [A0, nc]; omega)
    | (exfalso; subst hA; simp_all [A0]; done)
set_option maxRecDepth 100000 in
theorem w_insertN (ds : List DV) (w : Nat) (i : Int) (hds : ds.length = 3) (hi : i = 0) :
    FnD Try.prog 32 [nilS, .d (.sc (.int .i64 i)), .view 3 0 w 0 1] [⟨65, ds, false, w, true⟩]
      (fun r st' => r = .view 3 1 0 0 1 ∧ st' = [⟨65, ds, false, w, true⟩, ⟨65, ds, true, 0, true⟩]) := by
  subst hi
  refine FnD_cbv (T := fun _ => tabY [] []) (H := fun _ => []) (tabY_ok _ _) noK_ok follows_mixed Try.func32 rfl Try.ntmps32 (by simp) fun A X W hA hX hW => ?_
  cbv
  refine nilSliceL hX tab_ok (sz := 3) (e := 65) rfl rfl rfl ?_
  cbv
  repeat' first
    | (refine part (fun h => ?_) (fun h => ?_) <;> try cbv)
    | (refine And.intro ?_ ?_)
  all_goals first
    | (subst hA; rfl)
    | (exfalso; subst hA; simp [A0] at *; done)
    | (subst hA hX hW
       simp only [A0, nc]
       refine RetW.refl ⟨rfl, ?_⟩
       simp only [Nat.one_mul, List.drop_zero, List.nil_append]
       rw [List.take_of_length_le (by omega)])
    | (subst hA; simp only [A0, nc]; simp; done)
    | (subst hA; simp only [A0, nc]; omega)
    | (exfalso; subst hA; simp_all [A0]; done)
theorem insR_end (cs ds : List DV) (n : Nat) (h : cs.length = n * 3) : insR cs ds (n : Int) = cs ++ ds := by
  simp only [insR, Int.toNat_natCast]
  rw [List.take_of_length_le (by omega), List.drop_eq_nil_of_le (by omega), List.append_nil]
/-- slices.Insert of one pair. -/
theorem w_ins (cs ds : List DV) (n k : Nat) (i : Int) (v w : Nat) (hcs : cs.length = n * 3) (hds : ds.length = 3) (hi : i = k) (h1 : k ≤ n) (hn : n ≤ 1000000) :
    FnD Try.prog 32 [.view 3 0 v 0 n, .d (.sc (.int .i64 i)), .view 3 1 w 0 1] [⟨65, cs, true, v, true⟩, ⟨65, ds, false, w, true⟩]
      (fun r st' => (r = .view 3 0 (v + 1) 0 (n + 1) ∧ st' = [⟨65, insR cs ds i, true, v + 1, true⟩, ⟨65, ds, false, w, true⟩]) ∨ (∃ st0, r = .view 3 2 0 0 (n + 1) ∧ st' = [⟨65, st0, false, v, true⟩, ⟨65, ds, false, w, true⟩, ⟨65, insR cs ds i, true, 0, true⟩])) := by
  rcases Nat.lt_or_ge k n with h | h
  · exact w_insert cs ds n k i v w hcs hds hi h hn
  · obtain rfl : k = n := by omega
    have e := insR_end cs ds k hcs
    rw [← hi] at e
    rw [e]
    cases k with
    | zero =>
      have hc : cs = [] := List.eq_nil_of_length_eq_zero (by omega)
      subst hc
      subst hi
      exact (w_insert0 ds v w hds).mono fun _ _ h => .inl h
    | succ k => exact (w_insertE cs ds (k + 1) i v w hcs hds hi (by omega) hn).mono fun _ _ h => .inl h
end Go.Proofs.Ytmjmbfcfnhnpmaa
namespace Go.Proofs.Ytmjmbfcfnhnpmaa
open Go.RowKit
set_option linter.all false
set_option maxHeartbeats 4000000
abbrev none8 : ByteArray := { data := #[] }
def r64 (n : Int) : Prop := -9223372036854775808 ≤ n ∧ n ≤ 9223372036854775807
theorem wrap_i64 {a : Int} (h : r64 a) : IntKind.wrap .i64 a = a := by
  unfold r64 at h
  simp only [IntKind.wrap, IntKind.bits, IntKind.signed]
  simp
  omega
theorem rowsD_len {xs : List (List PD)} {sz : Nat} (h : ∀ x ∈ xs, x.length = sz) : (rowsD xs).length = xs.length * sz := by
  induction xs with
  | nil => simp [rowsD]
  | cons x xs ih =>
    have := ih fun y hy => h y (by simp [hy])
    have hx := h x (by simp)
    simp only [rowsD, List.flatten_cons, List.map_append, List.length_append, List.length_map, List.length_cons] at this ⊢
    rw [this, hx, Nat.add_mul]
    omega
theorem rowsD_cut {xs : List (List PD)} {sz : Nat} (h : ∀ x ∈ xs, x.length = sz) (i : Nat) (hi : i < xs.length) : rowsD xs = rowsD (xs.take i) ++ ((xs.getD i []).map .d ++ rowsD (xs.drop (i + 1))) := by
  have e : xs = xs.take i ++ (xs.getD i [] :: xs.drop (i + 1)) := by
    rw [List.getD_eq_getElem?_getD, List.getElem?_eq_getElem hi, Option.getD_some, ← List.drop_eq_getElem_cons hi, List.take_append_drop]
  conv => lhs; rw [e]
  simp [rowsD]
theorem take_len {xs : List (List PD)} {sz : Nat} (h : ∀ x ∈ xs, x.length = sz) (i : Nat) (hi : i ≤ xs.length) : (rowsD (xs.take i)).length = i * sz := by
  rw [rowsD_len fun y hy => h y (List.mem_of_mem_take hy), List.length_take, Nat.min_eq_left hi]
theorem insR_rows {xs : List (List PD)} (h : ∀ x ∈ xs, x.length = 3) (i : Nat) (hi : i ≤ xs.length) (y : List PD) : insR (rowsD xs) (y.map .d) (i : Int) = rowsD (xs.take i ++ [y] ++ xs.drop i) := by
  have e : rowsD xs = rowsD (xs.take i) ++ rowsD (xs.drop i) := by rw [← rowsD_append, List.take_append_drop]
  have hl := take_len h i hi
  simp only [insR, Int.toNat_natCast]
  rw [e, List.take_append_of_le_length (by omega), List.take_of_length_le (by omega), List.drop_append_of_le_length (by omega), List.drop_eq_nil_of_le (by omega)]
  simp [rowsD]
/-- A file: its name, its bytes, how many of them are kept. -/
structure FileM where
  name : ByteArray
  data : List (List PD)
  kept : Int
def FileM.row (f : FileM) : List PD := [.sc (.string f.name), .slc 1 f.data, .sc (.int .i64 f.kept)]
def filesX (l : List FileM) : List (List PD) := l.map FileM.row
theorem filesX_sz (l : List FileM) : ∀ x ∈ filesX l, x.length = 3 := by
  intro x hx
  simp only [filesX, List.mem_map] at hx
  obtain ⟨_, _, rfl⟩ := hx
  rfl
theorem filesX_length (l : List FileM) : (filesX l).length = l.length := by simp [filesX]
/-- The cells of files. -/
def cellsF (l : List FileM) : List DV := rowsD (filesX l)
theorem cellsF_len (l : List FileM) : (cellsF l).length = l.length * 3 := by rw [cellsF, rowsD_len (filesX_sz l), filesX_length]
def rowF : List DV → List FileM
  | .d (.sc (.string n)) :: .d (.slc _ b) :: .d (.sc (.int _ k)) :: r => ⟨n, b, k⟩ :: rowF r
  | _ => []
theorem cellsF_cons (f : FileM) (l : List FileM) : cellsF (f :: l) = [.d (.sc (.string f.name)), .d (.slc 1 f.data), .d (.sc (.int .i64 f.kept))] ++ cellsF l := rfl
theorem cellsF_append (a b : List FileM) : cellsF (a ++ b) = cellsF a ++ cellsF b := by
  induction a with
  | nil => rfl
  | cons f a ih => rw [List.cons_append, cellsF_cons, cellsF_cons, ih, List.append_assoc]
theorem rowF_cells : ∀ l : List FileM, rowF (cellsF l) = l
  | [] => rfl
  | f :: l => by
      rw [cellsF_cons]
      simp only [List.cons_append, List.nil_append, rowF, rowF_cells l]
theorem file_cell {L : List FileM} {q : List DV} (hq : q = cellsF L) (k : Nat) (h : k < L.length) : q[k * 3]? = some (.d (.sc (.string (L[k]'h).name))) ∧ q[k * 3 + 1]? = some (.d (.slc 1 (L[k]'h).data)) ∧ q[k * 3 + 2]? = some (.d (.sc (.int .i64 (L[k]'h).kept))) ∧
    (q.drop (k * 3)).take 3 = [.d (.sc (.string (L[k]'h).name)), .d (.slc 1 (L[k]'h).data), .d (.sc (.int .i64 (L[k]'h).kept))] ∧ k * 3 + 3 ≤ q.length := by
  have hsz := filesX_sz L
  have hk : k < (filesX L).length := by rw [filesX_length]; exact h
  have e := rowsD_cut hsz k hk
  have el := take_len hsz k (by omega)
  have eg : (filesX L).getD k [] = (L[k]'h).row := by simp [filesX, List.getD_eq_getElem?_getD, h]
  rw [eg] at e
  have ql := rowsD_len hsz
  have hd : q.drop (k * 3) = [.d (.sc (.string (L[k]'h).name)), .d (.slc 1 (L[k]'h).data), .d (.sc (.int .i64 (L[k]'h).kept))] ++ rowsD ((filesX L).drop (k + 1)) := by
    rw [hq, cellsF, e, List.drop_append_of_le_length (by omega), List.drop_eq_nil_of_le (by omega)]
    rfl
  have g : ∀ j, q[k * 3 + j]? = (q.drop (k * 3))[j]? := fun j => by rw [List.getElem?_drop]
  refine ⟨?_, ?_, ?_, ?_, ?_⟩
  · have := g 0
    rw [hd] at this
    exact this
  · have := g 1
    rw [hd] at this
    exact this
  · have := g 2
    rw [hd] at this
    exact this
  · rw [hd]; rfl
  · rw [hq, cellsF_len]; omega
/-- May a file be called so? -/
def mayL : List UInt8 → Bool
  | [] => true
  | c :: l => !(decide (c.toNat < 33) || decide (126 < c.toNat)) && mayL l
def mayF (s : ByteArray) : Bool := !(decide (s = none8) || decide (24 < s.size)) && mayL s.data.toList
def findF (name : ByteArray) : List FileM → Int → Int × Bool
  | [], i => (i, false)
  | f :: l, i => if ltb f.name name = true then findF name l (i + 1) else (i, decide (f.name = name))
theorem findF_range (name : ByteArray) : ∀ (l : List FileM) (i : Int), i ≤ (findF name l i).1 ∧ (findF name l i).1 ≤ i + l.length ∧ ((findF name l i).2 = true → (findF name l i).1 < i + l.length)
  | [], i => by simp [findF]
  | p :: ps, i => by
      unfold findF
      split
      · obtain ⟨a, b, c⟩ := findF_range name ps (i + 1)
        simp only [List.length_cons]
        exact ⟨by omega, by omega, fun h => by have := c h; omega⟩
      · simp only [List.length_cons]
        exact ⟨by omega, by omega, fun _ => by omega⟩
/-- The bytes of all. -/
def totF : List FileM → Int
  | [] => 0
  | f :: l => f.data.length + totF l
theorem totF_append (a b : List FileM) : totF (a ++ b) = totF a + totF b := by
  induction a with
  | nil => simp [totF]
  | cons f a ih => rw [List.cons_append, totF, totF, ih]; omega
theorem totF_nonneg : ∀ l : List FileM, 0 ≤ totF l
  | [] => by simp [totF]
  | f :: l => by have := totF_nonneg l; unfold totF; omega
theorem totF_take (l : List FileM) (k : Nat) : totF (l.take k) ≤ totF l := by
  have h := totF_append (l.take k) (l.drop k)
  rw [List.take_append_drop] at h
  have := totF_nonneg (l.drop k)
  omega
/-- Files in a disk: not more than these. -/
def okL (l : List FileM) : Prop := totF l ≤ 1048576 ∧ l.length ≤ 1000
abbrev dB (q : Int) (f : DV) (o a : Bool) (l : Int) : Box := ⟨59, [.d (.sc (.int .i64 q)), f, .d (.sc (.bool o)), .d (.sc (.bool a)), .d (.sc (.int .i64 l))], false, 0, true⟩
abbrev fB (cs : List DV) (v : Nat) : Box := ⟨65, cs, true, v, true⟩
/-- How a disk keeps its files: nothing yet, or a row of its own. -/
abbrev Fr := Option (Nat × Nat × List DV)
def Fr.d : Fr → DV
  | none => .d (.sc (.slice none 0 0))
  | some (v, n, _) => .view 3 1 v 0 n
def Fr.st : Fr → Store
  | none => []
  | some (v, _, cs) => [fB cs v]
def Fr.is (L : List FileM) : Fr → Prop
  | none => L = []
  | some (_, n, cs) => cs = cellsF L ∧ n = L.length
/-- A disk. -/
def dkS (q : Int) (fr : Fr) (o a : Bool) (l : Int) : Store := dB q fr.d o a l :: fr.st
structure FsD where
  may : ByteArray → Bool
  sz : ByteArray → Prop
def FsD0 : FsD where
  may := mayF
  sz := (fun s => s.size ≤ 1048576)
set_option maxRecDepth 100000 in
theorem v_may (s : ByteArray) (hp0 : FsD0.sz s) : FnV Try.prog 29 [strD s] (boolD ((mayF s))) := by
  obtain ⟨n, hn⟩ : ∃ n : Int, n = s.size := ⟨_, rfl⟩
  obtain ⟨l, hl⟩ : ∃ l : List UInt8, l = s.data.toList := ⟨_, rfl⟩
  have hnl : n = l.length := by rw [hn, hl]; rfl
  have hby : ∀ (k : Nat) (b : UInt8), l[k]? = some b → s[k]? = some b := by
    intro k b h
    rw [hl] at h
    have := List.getElem?_eq_some_iff.1 h
    obtain ⟨h1, h2⟩ := this
    have h3 : k < s.size := h1
    rw [getElem?_pos s k h3]
    exact congrArg some h2
  refine FnD_cbv (T := fun _ => tabY [] []) (H := fun _ => []) (tabY_ok _ _) noK_ok follows_mixed Try.func29 rfl Try.ntmps29 (by simp) fun A X W hA hX hW => ?_
  cbv
  replace hn : n = (s.size : Int) := hn
  replace hnl : n = (l.length : Int) := hnl
  replace hp0 : s.size ≤ 1048576 := hp0
  repeat' (refine And.intro ?_ ?_)
  rotate_right
  · refine part (fun h => ?_) (fun h => ?_) <;> cbv
    · subst hA hX hW
      refine ret_v (congrArg boolD ?_) rfl
      have h2 : (s = none8 ∨ 24 < s.size) := by
        simp only [A0, nc, Bool.cond_eq_true_distrib, decide_eq_true_eq] at h
        replace h : if s = none8 then True else (24 : Int) < (s.size : Int) := h
        split at h
        · left; assumption
        · right; omega
      unfold mayF
      rcases h2 with h2 | h2 <;> simp [h2]
    · have h2 : ¬ (s = none8) ∧ ¬ 24 < s.size := by
        subst hA
        simp only [A0, nc, cond_eq_ite, Bool.ite_eq_false_distrib, decide_eq_true_eq, decide_eq_false_iff_not] at h
        split at h
        · cases h
        · exact ⟨by assumption, by omega⟩
      replace hn : n = (s.size : Int) := hn
      have hn0 : 0 ≤ n := by omega
      clear h
      refine loopL (T := fun _ => tabY [] []) (H := fun _ => []) (tabY_ok _ _) noK_ok follows_mixed hA hX (fun i : Int => 0 ≤ i ∧ i ≤ n ∧ mayL l = mayL (l.drop i.toNat))
        (fun i => [(0, .d (.sc (.string s))), (12, .d (.sc (.int .i64 n))), (13, .d (.sc (.int .i64 i)))]) (fun _ => [])
        (fun i => n.toNat - i.toNat) 0 ?_ ?_ ?_
      · exact ⟨by omega, hn0, rfl⟩
      · subst hA; exact told_less (by simp [toldP, getS, A0, hn])
      rintro R i hR ⟨i0, i1, i2⟩
      cbv
      replace hn : n = (s.size : Int) := hn
      replace hnl : n = (l.length : Int) := hnl
      replace i0 : 0 ≤ i := i0
      replace i1 : i ≤ n := i1
      have hfin : ¬ i < n → mayF s = true := by
        intro h9
        rw [show i.toNat = l.length by omega, List.drop_length] at i2
        unfold mayF
        rw [← hl, i2]
        simp [h2.1, mayL]
        omega
      have hrow : i < n → ∃ b, s[i.toNat]? = some b ∧ mayL l = (!(decide (b.toNat < 33) || decide (126 < b.toNat)) && mayL (l.drop (i + 1).toNat)) := by
        intro h9
        have h10 : i.toNat < l.length := by omega
        have h11 := List.drop_eq_getElem_cons h10
        refine ⟨l[i.toNat], hby _ _ (List.getElem?_eq_getElem h10), ?_⟩
        rw [i2, h11, show (i + 1).toNat = i.toNat + 1 by omega]
        rfl
      have hbad : ∀ b : UInt8, mayL l = (!(decide (b.toNat < 33) || decide (126 < b.toNat)) && mayL (l.drop (i + 1).toNat)) → (b.toNat < 33 ∨ 126 < b.toNat) → mayF s = false := by
        intro b hm h13
        unfold mayF
        rw [← hl, hm]
        rcases h13 with h13 | h13 <;> simp [h13]
      have ei : IntKind.wrap .i64 (i + 1) = i + 1 := wrap_i64 (by unfold r64; omega)
      repeat' first
        | (refine part (fun h => ?_) (fun h => ?_) <;> try cbv)
        | (refine And.intro ?_ ?_)
      all_goals subst hA hX hW hR
      all_goals clear hby
      all_goals first
        | (have h9 : A0.cmp .lss i n = true := by assumption
           simp only [A0, decide_eq_true_eq] at h9
           obtain ⟨b, hb, hm⟩ := hrow h9
           first
             | exact (⟨i0, lt_of_lt_of_eq h9 hn⟩ : 0 ≤ i ∧ i < (s.size : Int))
             | exact fun _ => (⟨i0, lt_of_lt_of_eq h9 hn⟩ : 0 ≤ i ∧ i < (s.size : Int))
             | (have h12 : A0.cond (A0.cmp .lss (A0.byte s i) 33) true (A0.cmp .gtr (A0.byte s i) 126) = true := by assumption
                simp only [A0, hb, cond_eq_ite] at h12
                refine ret_v (congrArg boolD ?_) rfl
                refine (hbad b hm ?_).symm
                by_cases hq : (b.toNat : Int) < 33
                · left; omega
                · right
                  simp [hq] at h12
                  omega)
             | (have h12 : A0.cond (A0.cmp .lss (A0.byte s i) 33) true (A0.cmp .gtr (A0.byte s i) 126) = false := by assumption
                simp only [A0, hb, cond_eq_ite] at h12
                have h13 : ¬ (b.toNat < 33) ∧ ¬ (126 < b.toNat) := by
                  by_cases hq : (b.toNat : Int) < 33
                  · simp [hq] at h12
                  · simp [hq] at h12
                    omega
                refine ⟨i + 1, ⟨by omega, by omega, by rw [hm]; simp [h13]⟩, by omega, told_less ?_⟩
                simp [toldP, getS, A0, ei]
                done)
             | (simp [A0]; done)
             | (intro q; simpa [A0] using q)
             | (intro q; exact trivial))
        | (have h9 : A0.cmp .lss i n = false := by assumption
           simp only [A0, decide_eq_false_iff_not] at h9
           refine ret_v (congrArg boolD ?_) rfl
           rw [hfin h9])
        | fail
  all_goals subst hA hX hW
  all_goals first
    | (intro q; exact q)
    | (intro q; simpa [A0] using q)
    | (intro q; trivial)
    | (simp [A0]; done)
    | fail
def kn_may (F : FsD) : FuncId × (List DV → RV) := (29, fun args => match args with
  | [.d (.sc (.string s))] => some ([F.sz s], boolD ((F.may s)))
  | _ => none)
theorem ok_may (args : List DV) (cs : List Prop) (r : DV) (h : (kn_may FsD0).2 args = some (cs, r)) (hc : allP cs True) : FnV Try.prog 29 args r ∧ closedL 0 args = true := by
  unfold kn_may at h
  simp only at h
  split at h
  · cases h; exact ⟨v_may _ hc.1, rfl⟩
  · cases h
set_option maxRecDepth 100000 in
theorem w_find (q : Int) (fr : Fr) (o a : Bool) (lf : Int) (L : List FileM) (name : ByteArray) (hp0 : fr.is L) (hp1 : okL L) : FnD Try.prog 31 [.ref 0 0 0, .d (.sc (.string name))] (dkS q fr o a lf) (fun r st' => r = .tup [.d (.sc (.int .i64 (findF name L 0).1)), .d (.sc (.bool (findF name L 0).2))] ∧ st' = dkS q fr o a lf) := by
  obtain ⟨n, hn⟩ : ∃ n : Int, n = L.length := ⟨_, rfl⟩
  have hn0 : 0 ≤ n := by omega
  have hn1 : n ≤ 1000 := by have := hp1.2; omega
  obtain ⟨z, hz⟩ : ∃ z, z = findF name L 0 := ⟨_, rfl⟩
  rw [← hz]
  obtain ⟨z0, z1⟩ := z
  rcases fr with _ | ⟨v, m, cs⟩
  · replace hp0 : L = [] := hp0
    subst hp0
    have hcell := True.intro
    have hH : SoundK Try.prog [] := by exact noK_ok
    have hB : SoundB Try.prog [] := by exact noB_ok
    refine FnD_cbv (T := fun _ => tabY [16] []) (H := fun _ => []) (tabY_ok _ _) hH follows_mixed Try.func31 rfl Try.ntmps31 (by simp) fun A X W hA hX hW => ?_
    cbv
    replace hn : n = (([] : List FileM).length : Int) := hn
    replace hn0 : 0 ≤ n := hn0
    replace hn1 : n ≤ 1000 := hn1
    replace hz : (z0, z1) = findF name ([] : List FileM) 0 := hz
    try refine And.intro (by subst hA; rfl) ?_
    refine loopL (T := fun _ => tabY [16] []) (H := fun _ => []) (tabY_ok _ _) hH follows_mixed hA hX (fun i : Int => 0 ≤ i ∧ i ≤ n ∧ (z0, z1) = findF name (([] : List FileM).drop i.toNat) i)
      (fun i => [(0, .ref 0 0 0), (1, .d (.sc (.string name))), (11, .d (.sc (.slice none 0 0))), (12, .d (.sc (.int .i64 n))), (13, .d (.sc (.int .i64 i)))]) (fun _ => [dB q (.d (.sc (.slice none 0 0))) o a lf])
      (fun i => n.toNat - i.toNat) 0 ?_ ?_ ?_
    · exact ⟨by omega, hn0, hz⟩
    · first
        | (subst hA hn hm; exact told_less (by simp [toldP, getS, A0]))
        | (subst hA hn; exact told_less (by simp [toldP, getS, A0]))
    rintro R i hR ⟨i0, i1, i2⟩
    cbv
    replace hn : n = (([] : List FileM).length : Int) := hn
    replace hn0 : 0 ≤ n := hn0
    replace hn1 : n ≤ 1000 := hn1
    replace i0 : 0 ≤ i := i0
    replace i1 : i ≤ n := i1
    have ei : IntKind.wrap .i64 (i + 1) = i + 1 := wrap_i64 (by unfold r64; omega)
    repeat' first
      | (refine part (fun h => ?_) (fun h => ?_) <;> try cbv)
      | (refine And.intro ?_ ?_)
    all_goals subst hA hX hW hR
    all_goals replace hn : n = (([] : List FileM).length : Int) := hn
    all_goals try replace hmn : n = (m : Int) := hmn
    all_goals first
      | exact rfl
      | (show Region.lexB _ _ = true; kernel_rfl)
      | (show turnsB _ = true; kernel_rfl)
      | (exfalso
         have h8 : n = 0 := hn
         have h9 : A0.cmp .lss i n = true := by assumption
         simp only [A0, decide_eq_true_eq] at h9
         omega)
      | (have h9 : A0.cmp .lss i n = true := by assumption
         simp only [A0, decide_eq_true_eq] at h9
         replace h9 : i < n := h9
         obtain ⟨f, k0, k1, k2, k3, k4, k5, k6⟩ := hcell i0 h9
         first
           | exact (⟨i0, lt_of_lt_of_eq h9 hmn⟩ : 0 ≤ i ∧ i < (m : Int))
           | (simp only [A0, Nat.zero_add, k2, k3, k4]; exact ⟨rfl, k6, k5⟩)
           | (simp only [A0, Nat.zero_add, k2, Bool.not_eq_true', Bool.not_eq_false'] at h
              rw [k1, findF] at i2
              first
                | (rw [if_neg (by rw [h]; decide)] at i2
                   cases i2
                   refine ret_keep2 [0, 1] rfl ⟨⟨trivial, .inl rfl⟩, .inl rfl⟩ (RetW.refl ⟨?_, ?_⟩)
                   · simp [pullD, pullL, A0, k2]
                     try rfl
                   · simp [keepSt, pullBox, pullL, pullD, hpull, dkS, Fr.d, Fr.st]
                     try rfl)
                | (rw [if_pos h] at i2
                   refine ⟨i + 1, ⟨by omega, by omega, i2⟩, by omega, told_keep [0, 1] rfl ?_ ?_⟩
                   · simp [keepSt, pullBox, pullL, pullD, hpull]
                     try rfl
                   · simp [toldP, getS, pullD, A0, ei]
                     try exact ⟨rfl, rfl⟩)
                | fail))
      | (have h9 : A0.cmp .lss i n = false := by assumption
         simp only [A0, decide_eq_false_iff_not] at h9
         replace h9 : ¬ i < n := h9
         first
           | (have h8 : n = 0 := hn
              have i3 : (z0, z1) = (0, false) := by rw [hz]; rfl
              cases i3
              exact RetW.refl ⟨rfl, rfl⟩)
           | (have e1 : L.length ≤ i.toNat := by omega
              have e2 : i = (m : Int) := by omega
              rw [List.drop_eq_nil_of_le e1] at i2
              simp only [findF] at i2
              rw [e2] at i2
              cases i2
              exact RetW.refl ⟨rfl, rfl⟩))
  · obtain ⟨hcs, hm⟩ := hp0
    have hmn : n = (m : Int) := by rw [hm]; exact hn
    have hcell : ∀ {i : Int}, 0 ≤ i → i < n → ∃ f, L[i.toNat]? = some f ∧ L.drop i.toNat = f :: L.drop (i + 1).toNat ∧ cs[i.toNat * 3]? = some (.d (.sc (.string f.name))) ∧ cs[i.toNat * 3 + 1]? = some (.d (.slc 1 f.data)) ∧ cs[i.toNat * 3 + 2]? = some (.d (.sc (.int .i64 f.kept))) ∧
        (cs.drop (i.toNat * 3)).take 3 = [.d (.sc (.string f.name)), .d (.slc 1 f.data), .d (.sc (.int .i64 f.kept))] ∧ i.toNat * 3 + 3 ≤ cs.length := by
      intro i h0 h1
      have h2 : i.toNat < L.length := by omega
      refine ⟨L[i.toNat], List.getElem?_eq_getElem h2, ?_, file_cell hcs i.toNat h2⟩
      rw [List.drop_eq_getElem_cons h2, show (i + 1).toNat = i.toNat + 1 by omega]
    have hpull : ∀ κ, pullL κ cs = cs := fun κ => by rw [hcs, pullL_eq]; exact pull_rows κ _
    have hH : SoundK Try.prog [] := by exact noK_ok
    have hB : SoundB Try.prog [] := by exact noB_ok
    refine FnD_cbv (T := fun _ => tabY [16] []) (H := fun _ => []) (tabY_ok _ _) hH follows_mixed Try.func31 rfl Try.ntmps31 (by simp) fun A X W hA hX hW => ?_
    cbv
    replace hn : n = (L.length : Int) := hn
    replace hn0 : 0 ≤ n := hn0
    replace hn1 : n ≤ 1000 := hn1
    replace hz : (z0, z1) = findF name L 0 := hz
    try refine And.intro (by subst hA; rfl) ?_
    refine loopL (T := fun _ => tabY [16] []) (H := fun _ => []) (tabY_ok _ _) hH follows_mixed hA hX (fun i : Int => 0 ≤ i ∧ i ≤ n ∧ (z0, z1) = findF name (L.drop i.toNat) i)
      (fun i => [(0, .ref 0 0 0), (1, .d (.sc (.string name))), (11, .view 3 1 v 0 m), (12, .d (.sc (.int .i64 n))), (13, .d (.sc (.int .i64 i)))]) (fun _ => [dB q (.view 3 1 v 0 m) o a lf, fB cs v])
      (fun i => n.toNat - i.toNat) 0 ?_ ?_ ?_
    · exact ⟨by omega, hn0, hz⟩
    · first
        | (subst hA hn hm; exact told_less (by simp [toldP, getS, A0]))
        | (subst hA hn; exact told_less (by simp [toldP, getS, A0]))
    rintro R i hR ⟨i0, i1, i2⟩
    cbv
    replace hn : n = (L.length : Int) := hn
    replace hn0 : 0 ≤ n := hn0
    replace hn1 : n ≤ 1000 := hn1
    replace i0 : 0 ≤ i := i0
    replace i1 : i ≤ n := i1
    have ei : IntKind.wrap .i64 (i + 1) = i + 1 := wrap_i64 (by unfold r64; omega)
    repeat' first
      | (refine part (fun h => ?_) (fun h => ?_) <;> try cbv)
      | (refine And.intro ?_ ?_)
    all_goals subst hA hX hW hR
    all_goals replace hn : n = (L.length : Int) := hn
    all_goals try replace hmn : n = (m : Int) := hmn
    all_goals first
      | exact rfl
      | (show Region.lexB _ _ = true; kernel_rfl)
      | (show turnsB _ = true; kernel_rfl)
      | (exfalso
         have h8 : n = 0 := hn
         have h9 : A0.cmp .lss i n = true := by assumption
         simp only [A0, decide_eq_true_eq] at h9
         omega)
      | (have h9 : A0.cmp .lss i n = true := by assumption
         simp only [A0, decide_eq_true_eq] at h9
         replace h9 : i < n := h9
         obtain ⟨f, k0, k1, k2, k3, k4, k5, k6⟩ := hcell i0 h9
         first
           | exact (⟨i0, lt_of_lt_of_eq h9 hmn⟩ : 0 ≤ i ∧ i < (m : Int))
           | (simp only [A0, Nat.zero_add, k2, k3, k4]; exact ⟨rfl, k6, k5⟩)
           | (simp only [A0, Nat.zero_add, k2, Bool.not_eq_true', Bool.not_eq_false'] at h
              rw [k1, findF] at i2
              first
                | (rw [if_neg (by rw [h]; decide)] at i2
                   cases i2
                   refine ret_keep2 [0, 1] rfl ⟨⟨trivial, .inl rfl⟩, .inl rfl⟩ (RetW.refl ⟨?_, ?_⟩)
                   · simp [pullD, pullL, A0, k2]
                     try rfl
                   · simp [keepSt, pullBox, pullL, pullD, hpull, dkS, Fr.d, Fr.st]
                     try rfl)
                | (rw [if_pos h] at i2
                   refine ⟨i + 1, ⟨by omega, by omega, i2⟩, by omega, told_keep [0, 1] rfl ?_ ?_⟩
                   · simp [keepSt, pullBox, pullL, pullD, hpull]
                     try rfl
                   · simp [toldP, getS, pullD, A0, ei]
                     try exact ⟨rfl, rfl⟩)
                | fail))
      | (have h9 : A0.cmp .lss i n = false := by assumption
         simp only [A0, decide_eq_false_iff_not] at h9
         replace h9 : ¬ i < n := h9
         first
           | (have h8 : n = 0 := hn
              have i3 : (z0, z1) = (0, false) := by rw [hz]; rfl
              cases i3
              exact RetW.refl ⟨rfl, rfl⟩)
           | (have e1 : L.length ≤ i.toNat := by omega
              have e2 : i = (m : Int) := by omega
              rw [List.drop_eq_nil_of_le e1] at i2
              simp only [findF] at i2
              rw [e2] at i2
              cases i2
              exact RetW.refl ⟨rfl, rfl⟩))
end Go.Proofs.Ytmjmbfcfnhnpmaa
namespace Go.Proofs.Ytmjmbfcfnhnpmaa
open Go.RowKit
set_option linter.all false
set_option maxHeartbeats 4000000
theorem totF_step {L : List FileM} {i : Nat} {f : FileM} (h : L[i]? = some f) : totF (L.take (i + 1)) = totF (L.take i) + f.data.length := by
  obtain ⟨h1, h2⟩ := List.getElem?_eq_some_iff.1 h
  rw [List.take_succ_eq_append_getElem h1, totF_append, h2]
  simp [totF]
set_option maxRecDepth 100000 in
theorem w_total (q : Int) (fr : Fr) (o a : Bool) (lf : Int) (L : List FileM)  (hp0 : fr.is L) (hp1 : okL L) : FnD Try.prog 19 [.ref 0 0 0] (dkS q fr o a lf) (fun r st' => r = .d (.sc (.int .i64 (totF L))) ∧ st' = dkS q fr o a lf) := by
  obtain ⟨n, hn⟩ : ∃ n : Int, n = L.length := ⟨_, rfl⟩
  have hn0 : 0 ≤ n := by omega
  have hn1 : n ≤ 1000 := by have := hp1.2; omega
  obtain ⟨z, hz⟩ : ∃ z, z = totF L := ⟨_, rfl⟩
  rw [← hz]
  have hz1 : z ≤ 1048576 := by rw [hz]; exact hp1.1
  rcases fr with _ | ⟨v, m, cs⟩
  · replace hp0 : L = [] := hp0
    subst hp0
    have hcell := True.intro
    have hH : SoundK Try.prog [] := by exact noK_ok
    have hB : SoundB Try.prog [] := by exact noB_ok
    refine FnD_cbv (T := fun _ => tabY [13] []) (H := fun _ => []) (tabY_ok _ _) hH follows_mixed Try.func19 rfl Try.ntmps19 (by simp) fun A X W hA hX hW => ?_
    cbv
    replace hn : n = (([] : List FileM).length : Int) := hn
    replace hn0 : 0 ≤ n := hn0
    replace hn1 : n ≤ 1000 := hn1
    replace hz : z = totF ([] : List FileM) := hz
    try refine And.intro (by subst hA; rfl) ?_
    refine loopL (T := fun _ => tabY [13] []) (H := fun _ => []) (tabY_ok _ _) hH follows_mixed hA hX (fun x : Int × Int => 0 ≤ x.1 ∧ x.1 ≤ n ∧ x.2 = totF (([] : List FileM).take x.1.toNat))
      (fun x => [(0, .ref 0 0 0), (3, .d (.sc (.int .i64 x.2))), (9, .d (.sc (.slice none 0 0))), (10, .d (.sc (.int .i64 n))), (11, .d (.sc (.int .i64 x.1)))]) (fun _ => [dB q (.d (.sc (.slice none 0 0))) o a lf])
      (fun x => n.toNat - x.1.toNat) (0, 0) ?_ ?_ ?_
    · exact ⟨by omega, hn0, by simp [totF]⟩
    · first
        | (subst hA hn hm; exact told_less (by simp [toldP, getS, A0]))
        | (subst hA hn; exact told_less (by simp [toldP, getS, A0]))
    rintro R ⟨i, s⟩ hR ⟨i0, i1, i2⟩
    cbv
    repeat' first
      | (refine part (fun h => ?_) (fun h => ?_) <;> try cbv)
      | (refine And.intro ?_ ?_)
    all_goals subst hA hX hW hR
    all_goals replace hn : n = (([] : List FileM).length : Int) := hn
    all_goals replace hn0 : 0 ≤ n := hn0
    all_goals replace hn1 : n ≤ 1000 := hn1
    all_goals replace i0 : 0 ≤ i := i0
    all_goals replace i1 : i ≤ n := i1
    all_goals replace i2 : s = totF (([] : List FileM).take i.toNat) := i2
    all_goals try replace hmn : n = (m : Int) := hmn
    all_goals first
      | exact rfl
      | (show Region.lexB _ _ = true; kernel_rfl)
      | (show turnsB _ = true; kernel_rfl)
      | (exfalso
         have h8 : n = 0 := hn
         have h9 : A0.cmp .lss i n = true := by assumption
         simp only [A0, decide_eq_true_eq] at h9
         omega)
      | (have h9 : A0.cmp .lss i n = true := by assumption
         simp only [A0, decide_eq_true_eq] at h9
         replace h9 : i < n := h9
         obtain ⟨f, k0, k1, k2, k3, k4, k5, k6⟩ := hcell i0 h9
         first
           | exact (⟨i0, lt_of_lt_of_eq h9 hmn⟩ : 0 ≤ i ∧ i < (m : Int))
           | (simp only [A0, Nat.zero_add, k2, k3, k4]; exact ⟨rfl, k6, k5⟩)
           | (have hst := totF_step k0
              have hle := totF_take L (i.toNat + 1)
              have hge := totF_nonneg (L.take i.toNat)
              have ei : IntKind.wrap .i64 (i + 1) = i + 1 := wrap_i64 (by unfold r64; omega)
              have es : IntKind.wrap .i64 (s + f.data.length) = s + f.data.length := wrap_i64 (by unfold r64; omega)
              refine ⟨(i + 1, s + f.data.length), ⟨by simp only; omega, by simp only; omega, by simp only; rw [show (i + 1).toNat = i.toNat + 1 by omega]; omega⟩, by simp only; omega, told_keep [0, 1] rfl ?_ ?_⟩
              · simp [keepSt, pullBox, pullL, pullD, hpull]
                try rfl
              · simp [toldP, getS, pullD, A0, ei, k3, es]
                try exact ⟨rfl, rfl⟩)
           | fail)
      | (have h9 : A0.cmp .lss i n = false := by assumption
         simp only [A0, decide_eq_false_iff_not] at h9
         replace h9 : ¬ i < n := h9
         first
           | (have h8 : n = 0 := hn
              have i3 : s = z := by rw [i2, hz]; simp [totF]
              rw [i3]
              exact RetW.refl ⟨rfl, rfl⟩)
           | (have e1 : L.length ≤ i.toNat := by omega
              rw [List.take_of_length_le e1, ← hz] at i2
              rw [i2]
              exact RetW.refl ⟨rfl, rfl⟩)
           | fail)
      | fail
  · obtain ⟨hcs, hm⟩ := hp0
    have hmn : n = (m : Int) := by rw [hm]; exact hn
    have hcell : ∀ {i : Int}, 0 ≤ i → i < n → ∃ f, L[i.toNat]? = some f ∧ L.drop i.toNat = f :: L.drop (i + 1).toNat ∧ cs[i.toNat * 3]? = some (.d (.sc (.string f.name))) ∧ cs[i.toNat * 3 + 1]? = some (.d (.slc 1 f.data)) ∧ cs[i.toNat * 3 + 2]? = some (.d (.sc (.int .i64 f.kept))) ∧
        (cs.drop (i.toNat * 3)).take 3 = [.d (.sc (.string f.name)), .d (.slc 1 f.data), .d (.sc (.int .i64 f.kept))] ∧ i.toNat * 3 + 3 ≤ cs.length := by
      intro i h0 h1
      have h2 : i.toNat < L.length := by omega
      refine ⟨L[i.toNat], List.getElem?_eq_getElem h2, ?_, file_cell hcs i.toNat h2⟩
      rw [List.drop_eq_getElem_cons h2, show (i + 1).toNat = i.toNat + 1 by omega]
    have hpull : ∀ κ, pullL κ cs = cs := fun κ => by rw [hcs, pullL_eq]; exact pull_rows κ _
    have hH : SoundK Try.prog [] := by exact noK_ok
    have hB : SoundB Try.prog [] := by exact noB_ok
    refine FnD_cbv (T := fun _ => tabY [13] []) (H := fun _ => []) (tabY_ok _ _) hH follows_mixed Try.func19 rfl Try.ntmps19 (by simp) fun A X W hA hX hW => ?_
    cbv
    replace hn : n = (L.length : Int) := hn
    replace hn0 : 0 ≤ n := hn0
    replace hn1 : n ≤ 1000 := hn1
    replace hz : z = totF L := hz
    try refine And.intro (by subst hA; rfl) ?_
    refine loopL (T := fun _ => tabY [13] []) (H := fun _ => []) (tabY_ok _ _) hH follows_mixed hA hX (fun x : Int × Int => 0 ≤ x.1 ∧ x.1 ≤ n ∧ x.2 = totF (L.take x.1.toNat))
      (fun x => [(0, .ref 0 0 0), (3, .d (.sc (.int .i64 x.2))), (9, .view 3 1 v 0 m), (10, .d (.sc (.int .i64 n))), (11, .d (.sc (.int .i64 x.1)))]) (fun _ => [dB q (.view 3 1 v 0 m) o a lf, fB cs v])
      (fun x => n.toNat - x.1.toNat) (0, 0) ?_ ?_ ?_
    · exact ⟨by omega, hn0, by simp [totF]⟩
    · first
        | (subst hA hn hm; exact told_less (by simp [toldP, getS, A0]))
        | (subst hA hn; exact told_less (by simp [toldP, getS, A0]))
    rintro R ⟨i, s⟩ hR ⟨i0, i1, i2⟩
    cbv
    repeat' first
      | (refine part (fun h => ?_) (fun h => ?_) <;> try cbv)
      | (refine And.intro ?_ ?_)
    all_goals subst hA hX hW hR
    all_goals replace hn : n = (L.length : Int) := hn
    all_goals replace hn0 : 0 ≤ n := hn0
    all_goals replace hn1 : n ≤ 1000 := hn1
    all_goals replace i0 : 0 ≤ i := i0
    all_goals replace i1 : i ≤ n := i1
    all_goals replace i2 : s = totF (L.take i.toNat) := i2
    all_goals try replace hmn : n = (m : Int) := hmn
    all_goals first
      | exact rfl
      | (show Region.lexB _ _ = true; kernel_rfl)
      | (show turnsB _ = true; kernel_rfl)
      | (exfalso
         have h8 : n = 0 := hn
         have h9 : A0.cmp .lss i n = true := by assumption
         simp only [A0, decide_eq_true_eq] at h9
         omega)
      | (have h9 : A0.cmp .lss i n = true := by assumption
         simp only [A0, decide_eq_true_eq] at h9
         replace h9 : i < n := h9
         obtain ⟨f, k0, k1, k2, k3, k4, k5, k6⟩ := hcell i0 h9
         first
           | exact (⟨i0, lt_of_lt_of_eq h9 hmn⟩ : 0 ≤ i ∧ i < (m : Int))
           | (simp only [A0, Nat.zero_add, k2, k3, k4]; exact ⟨rfl, k6, k5⟩)
           | (have hst := totF_step k0
              have hle := totF_take L (i.toNat + 1)
              have hge := totF_nonneg (L.take i.toNat)
              have ei : IntKind.wrap .i64 (i + 1) = i + 1 := wrap_i64 (by unfold r64; omega)
              have es : IntKind.wrap .i64 (s + f.data.length) = s + f.data.length := wrap_i64 (by unfold r64; omega)
              refine ⟨(i + 1, s + f.data.length), ⟨by simp only; omega, by simp only; omega, by simp only; rw [show (i + 1).toNat = i.toNat + 1 by omega]; omega⟩, by simp only; omega, told_keep [0, 1] rfl ?_ ?_⟩
              · simp [keepSt, pullBox, pullL, pullD, hpull]
                try rfl
              · simp [toldP, getS, pullD, A0, ei, k3, es]
                try exact ⟨rfl, rfl⟩)
           | fail)
      | (have h9 : A0.cmp .lss i n = false := by assumption
         simp only [A0, decide_eq_false_iff_not] at h9
         replace h9 : ¬ i < n := h9
         first
           | (have h8 : n = 0 := hn
              have i3 : s = z := by rw [i2, hz]; simp [totF]
              rw [i3]
              exact RetW.refl ⟨rfl, rfl⟩)
           | (have e1 : L.length ≤ i.toNat := by omega
              rw [List.take_of_length_le e1, ← hz] at i2
              rw [i2]
              exact RetW.refl ⟨rfl, rfl⟩)
           | fail)
      | fail
/-- Power for one change: the error, whether it is off behind it, how many are left. -/
def powE (a : Bool) (l : Int) : Int := bif a && decide (l = 0) then 10 else 0
def powO (o a : Bool) (l : Int) : Bool := (a && decide (l = 0)) || o
def powL (a : Bool) (l : Int) : Int := bif a && !decide (l = 0) then l - 1 else l
set_option maxRecDepth 100000 in
theorem w_power (q : Int) (fr : Fr) (o a : Bool) (lf : Int)  (hl : 0 ≤ lf ∧ lf ≤ 9223372036854775807) : FnD Try.prog 30 [.ref 0 0 0] (dkS q fr o a lf) (fun r st' => r = .d (.sc (.int .i64 (powE a lf))) ∧ st' = dkS q fr (powO o a lf) a (powL a lf)) := by
  rcases fr with _ | ⟨v, m, cs⟩
  · have hH : SoundK Try.prog [] := by exact noK_ok
    have hB : SoundB Try.prog [] := by exact noB_ok
    refine FnD_cbv (T := fun _ => tabY [] []) (H := fun _ => []) (tabY_ok _ _) hH follows_mixed Try.func30 rfl Try.ntmps30 (by simp) fun A X W hA hX hW => ?_
    cbv
    repeat' first
      | (refine part (fun h => ?_) (fun h => ?_) <;> try cbv)
      | (refine And.intro ?_ ?_)
    all_goals subst hA hX hW
    all_goals first
      | exact rfl
      | (show Region.lexB _ _ = true; kernel_rfl)
      | (show turnsB _ = true; kernel_rfl)
      | (intro q; exact q)
      | (intro q; simpa [A0] using q)
      | (intro _; trivial)
      | (simp [A0]; done)
      | (refine RetW.refl ⟨?_, ?_⟩
         · simp only [A0] at *
           have ew : IntKind.wrap .i64 (lf - 1) = lf - 1 := wrap_i64 (by unfold r64; omega)
           cases a <;> by_cases hl0 : lf = 0 <;> simp_all [powE]
         · simp only [A0] at *
           have ew : IntKind.wrap .i64 (lf - 1) = lf - 1 := wrap_i64 (by unfold r64; omega)
           cases a <;> by_cases hl0 : lf = 0 <;> simp_all [powO, powL, dkS, Fr.d, Fr.st]
         done)
      | fail
  · have hH : SoundK Try.prog [] := by exact noK_ok
    have hB : SoundB Try.prog [] := by exact noB_ok
    refine FnD_cbv (T := fun _ => tabY [] []) (H := fun _ => []) (tabY_ok _ _) hH follows_mixed Try.func30 rfl Try.ntmps30 (by simp) fun A X W hA hX hW => ?_
    cbv
    repeat' first
      | (refine part (fun h => ?_) (fun h => ?_) <;> try cbv)
      | (refine And.intro ?_ ?_)
    all_goals subst hA hX hW
    all_goals first
      | exact rfl
      | (show Region.lexB _ _ = true; kernel_rfl)
      | (show turnsB _ = true; kernel_rfl)
      | (intro q; exact q)
      | (intro q; simpa [A0] using q)
      | (intro _; trivial)
      | (simp [A0]; done)
      | (refine RetW.refl ⟨?_, ?_⟩
         · simp only [A0] at *
           have ew : IntKind.wrap .i64 (lf - 1) = lf - 1 := wrap_i64 (by unfold r64; omega)
           cases a <;> by_cases hl0 : lf = 0 <;> simp_all [powE]
         · simp only [A0] at *
           have ew : IntKind.wrap .i64 (lf - 1) = lf - 1 := wrap_i64 (by unfold r64; omega)
           cases a <;> by_cases hl0 : lf = 0 <;> simp_all [powO, powL, dkS, Fr.d, Fr.st]
         done)
      | fail
set_option maxRecDepth 100000 in
theorem w_off (q : Int) (fr : Fr) (o a : Bool) (lf : Int)   : FnD Try.prog 17 [.ref 0 0 0] (dkS q fr o a lf) (fun r st' => r = .d (.sc (.bool o)) ∧ st' = dkS q fr o a lf) := by
  rcases fr with _ | ⟨v, m, cs⟩
  · have hH : SoundK Try.prog [] := by exact noK_ok
    have hB : SoundB Try.prog [] := by exact noB_ok
    refine FnD_cbv (T := fun _ => tabY [] []) (H := fun _ => []) (tabY_ok _ _) hH follows_mixed Try.func17 rfl Try.ntmps17 (by simp) fun A X W hA hX hW => ?_
    cbv
    repeat' first
      | (refine part (fun h => ?_) (fun h => ?_) <;> try cbv)
      | (refine And.intro ?_ ?_)
    all_goals subst hA hX hW
    all_goals first
      | exact rfl
      | (show Region.lexB _ _ = true; kernel_rfl)
      | (show turnsB _ = true; kernel_rfl)
      | exact RetW.refl ⟨rfl, rfl⟩
      | fail
  · have hH : SoundK Try.prog [] := by exact noK_ok
    have hB : SoundB Try.prog [] := by exact noB_ok
    refine FnD_cbv (T := fun _ => tabY [] []) (H := fun _ => []) (tabY_ok _ _) hH follows_mixed Try.func17 rfl Try.ntmps17 (by simp) fun A X W hA hX hW => ?_
    cbv
    repeat' first
      | (refine part (fun h => ?_) (fun h => ?_) <;> try cbv)
      | (refine And.intro ?_ ?_)
    all_goals subst hA hX hW
    all_goals first
      | exact rfl
      | (show Region.lexB _ _ = true; kernel_rfl)
      | (show turnsB _ = true; kernel_rfl)
      | exact RetW.refl ⟨rfl, rfl⟩
      | fail
set_option maxRecDepth 100000 in
theorem w_arm (q : Int) (fr : Fr) (o a : Bool) (lf : Int) (k : Int)  : FnD Try.prog 15 [.ref 0 0 0, .d (.sc (.int .i64 k))] (dkS q fr o a lf) (fun r st' => r = .tup [] ∧ st' = dkS q fr o (decide (0 ≤ k)) (max k 0)) := by
  rcases fr with _ | ⟨v, m, cs⟩
  · have hH : SoundK Try.prog [] := by exact noK_ok
    have hB : SoundB Try.prog [] := by exact noB_ok
    refine FnD_cbv (T := fun _ => tabY [] []) (H := fun _ => []) (tabY_ok _ _) hH follows_mixed Try.func15 rfl Try.ntmps15 (by simp) fun A X W hA hX hW => ?_
    cbv
    repeat' first
      | (refine part (fun h => ?_) (fun h => ?_) <;> try cbv)
      | (refine And.intro ?_ ?_)
    all_goals subst hA hX hW
    all_goals first
      | exact rfl
      | (show Region.lexB _ _ = true; kernel_rfl)
      | (show turnsB _ = true; kernel_rfl)
      | exact RetW.refl ⟨rfl, rfl⟩
      | fail
  · have hH : SoundK Try.prog [] := by exact noK_ok
    have hB : SoundB Try.prog [] := by exact noB_ok
    refine FnD_cbv (T := fun _ => tabY [] []) (H := fun _ => []) (tabY_ok _ _) hH follows_mixed Try.func15 rfl Try.ntmps15 (by simp) fun A X W hA hX hW => ?_
    cbv
    repeat' first
      | (refine part (fun h => ?_) (fun h => ?_) <;> try cbv)
      | (refine And.intro ?_ ?_)
    all_goals subst hA hX hW
    all_goals first
      | exact rfl
      | (show Region.lexB _ _ = true; kernel_rfl)
      | (show turnsB _ = true; kernel_rfl)
      | exact RetW.refl ⟨rfl, rfl⟩
      | fail
end Go.Proofs.Ytmjmbfcfnhnpmaa
namespace Go.Proofs.Ytmjmbfcfnhnpmaa
open Go.RowKit
set_option linter.all false
set_option maxHeartbeats 4000000
theorem fB_ren (φ : Nat → Nat) (cs : List DV) (v : Nat) (h : closedL 0 cs = true) : Box.ren φ (fB cs v) = fB cs v := by
  unfold Box.ren
  have := renL_pure φ cs h
  rw [renL_eq] at this
  simp only [this]
theorem dB_ren (b c n0 : Nat) (q : Int) (v n : Nat) (o a : Bool) (l : Int) : Box.ren (place [b, c] n0) (dB q (.view 3 1 v 0 n) o a l) = dB q (.view 3 c v 0 n) o a l := by
  simp [Box.ren, renD, place]
theorem dN_ren (φ : Nat → Nat) (q : Int) (p : PD) (o a : Bool) (l : Int) : Box.ren φ (dB q (.d p) o a l) = dB q (.d p) o a l := by
  simp [Box.ren, renD]
theorem merge_two {st : Store} {b c : Nat} (hb : b < st.length) (hc : c < st.length) (hbc : b ≠ c) (x y : Box) : mergeL st [b, c] [x, y] = (st.set b x).set c y := by
  apply List.ext_getElem?
  intro i
  have hd : ([x, y] : List Box).drop [b, c].length = [] := by simp
  rw [mergeL, hd, List.append_nil]
  simp only [List.getElem?_mapIdx, List.getElem?_set, List.length_set]
  by_cases hi : b = i
  · subst hi
    have : ([b, c] : List Nat).idxOf? b = some 0 := by simp [List.idxOf?, List.findIdx?_cons]
    simp [this, hb, Ne.symm hbc]
  · by_cases hj : c = i
    · subst hj
      have : ([b, c] : List Nat).idxOf? c = some 1 := by simp [List.idxOf?, List.findIdx?_cons, hbc]
      simp [this, hc]
    · have : ([b, c] : List Nat).idxOf? i = none := by
        rw [List.idxOf?_eq_none_iff]
        simp only [List.mem_cons, List.not_mem_nil, or_false, not_or]
        exact ⟨fun h => hi h.symm, fun h => hj h.symm⟩
      simp [this, hi, hj]
theorem merge_one {st : Store} {b : Nat} (hb : b < st.length) (x : Box) (ys : List Box) : mergeL st [b] (x :: ys) = st.set b x ++ ys := by
  rw [mergeL]
  have hd : (x :: ys).drop [b].length = ys := by simp
  rw [hd]
  congr 1
  apply List.ext_getElem?
  intro i
  simp only [List.getElem?_mapIdx, List.getElem?_set]
  by_cases hi : b = i
  · subst hi
    simp [hb, List.idxOf?, List.findIdx?_cons]
  · have : ([b] : List Nat).idxOf? i = none := by rw [List.idxOf?_eq_none_iff]; simpa using fun h => hi h.symm
    simp [this, hi]
/-- A disk with a row of files, at any two places. -/
theorem FnD.dk {β : Type} {P : Program} {f : FuncId} {args : List DV} {st : Store} {K : DV → Store → Prop} {q : Int} {v n : Nat} {cs : List DV} {o a : Bool} {l : Int} {G : β → Prop} {res : β → DV} {q' l' : β → Int} {v' n' : β → Nat} {cs' : β → List DV} {o' a' : β → Bool} (b c : Nat)
    (h : FnD P f (.ref 0 0 0 :: args) (dkS q (some (v, n, cs)) o a l) fun r st' => ∃ y : β, G y ∧ r = res y ∧ st' = dkS (q' y) (some (v' y, n' y, cs' y)) (o' y) (a' y) (l' y))
    (hb : st[b]? = some (dB q (.view 3 c v 0 n) o a l)) (hc : st[c]? = some (fB cs v)) (hbc : b ≠ c) (ha : closedL 0 args = true) (hr : ∀ y, G y → closedD 0 (res y) = true) (h3 : closedL 0 cs = true) (h4 : ∀ y, G y → closedL 0 (cs' y) = true)
    (hk : ∀ y, G y → K (res y) ((st.set b (dB (q' y) (.view 3 c (v' y) 0 (n' y)) (o' y) (a' y) (l' y))).set c (fB (cs' y) (v' y)))) : FnD P f (.ref b 0 0 :: args) st K := by
  have hlt : b < st.length := (List.getElem?_eq_some_iff.1 hb).1
  have hltc : c < st.length := (List.getElem?_eq_some_iff.1 hc).1
  refine FnD.at (args' := .ref 0 0 0 :: args) h [b, c] (by simp [hlt, hltc, hbc, closedL, closedD, closedL_mono (Nat.zero_le 2) _ ha, dkS, Fr.st]) ?_ (by simp [renL, renD, place, renL_pure _ _ ha]) ?_
  · intro k r bx0 hk hs
    rcases k with _ | _ | k
    · simp [dkS, Fr.d, Fr.st] at hk hs
      subst hk; subst hs
      exact ⟨by rw [dB_ren]; exact hb, rfl⟩
    · simp [dkS, Fr.d, Fr.st] at hk hs
      subst hk; subst hs
      exact ⟨by rw [fB_ren _ _ _ h3]; exact hc, closedL_mono (Nat.zero_le _) _ h3⟩
    · simp at hk
  · rintro r0 stc ⟨y, hy, rfl, rfl⟩ _
    rw [renD_pure _ _ (hr y hy)]
    have e : (dkS (q' y) (some (v' y, n' y, cs' y)) (o' y) (a' y) (l' y)).map (Box.ren (place [b, c] st.length)) = [dB (q' y) (.view 3 c (v' y) 0 (n' y)) (o' y) (a' y) (l' y), fB (cs' y) (v' y)] := by
      simp only [dkS, Fr.d, Fr.st, List.map_cons, List.map_nil, dB_ren, fB_ren _ _ _ (h4 y hy)]
    rw [e, merge_two hlt hltc hbc]
    exact hk y hy
/-- A disk without a file, at any place. -/
theorem FnD.dk0 {β : Type} {P : Program} {f : FuncId} {args : List DV} {st : Store} {K : DV → Store → Prop} {q : Int} {o a : Bool} {l : Int} {G : β → Prop} {res : β → DV} {q' l' : β → Int} {o' a' : β → Bool} {fr' : β → Fr} (b : Nat)
    (h : FnD P f (.ref 0 0 0 :: args) (dkS q none o a l) fun r st' => ∃ y : β, G y ∧ r = res y ∧ st' = dkS (q' y) (fr' y) (o' y) (a' y) (l' y))
    (hb : st[b]? = some (dB q (.d (.sc (.slice none 0 0))) o a l)) (ha : closedL 0 args = true) (hr : ∀ y, G y → closedD 0 (res y) = true) (h4 : ∀ y v n cs, G y → fr' y = some (v, n, cs) → closedL 0 cs = true)
    (hk : ∀ y, G y → (fr' y = none → K (res y) (st.set b (dB (q' y) (.d (.sc (.slice none 0 0))) (o' y) (a' y) (l' y)))) ∧ ∀ v n cs, fr' y = some (v, n, cs) → K (res y) (st.set b (dB (q' y) (.view 3 st.length v 0 n) (o' y) (a' y) (l' y)) ++ [fB cs v])) : FnD P f (.ref b 0 0 :: args) st K := by
  have hlt : b < st.length := (List.getElem?_eq_some_iff.1 hb).1
  refine FnD.at (args' := .ref 0 0 0 :: args) h [b] (by simp [hlt, closedL, closedD, closedL_mono (Nat.zero_le 1) _ ha, dkS, Fr.st]) ?_ (by simp [renL, renD, place, renL_pure _ _ ha]) ?_
  · intro k r bx0 hk hs
    rcases k with _ | k
    · simp [dkS, Fr.d, Fr.st] at hk hs
      subst hk; subst hs
      exact ⟨by rw [dN_ren]; exact hb, rfl⟩
    · simp at hk
  · rintro r0 stc ⟨y, hy, rfl, rfl⟩ _
    rw [renD_pure _ _ (hr y hy)]
    cases hf : fr' y with
    | none =>
      have e : (dkS (q' y) none (o' y) (a' y) (l' y)).map (Box.ren (place [b] st.length)) = [dB (q' y) (.d (.sc (.slice none 0 0))) (o' y) (a' y) (l' y)] := by
        simp only [dkS, Fr.d, Fr.st, List.map_cons, List.map_nil, dN_ren]
      rw [e, merge_one hlt, List.append_nil]
      exact (hk y hy).1 hf
    | some w =>
      obtain ⟨v, n, cs⟩ := w
      have e : (dkS (q' y) (some (v, n, cs)) (o' y) (a' y) (l' y)).map (Box.ren (place [b] st.length)) = [dB (q' y) (.view 3 st.length v 0 n) (o' y) (a' y) (l' y), fB cs v] := by
        simp only [dkS, Fr.d, Fr.st, List.map_cons, List.map_nil, fB_ren _ _ _ (h4 y v n cs hy hf)]
        simp [Box.ren, renD, place]
      rw [e, merge_one hlt]
      exact (hk y hy).2 v n cs hf
/-- Cells of files that a disk may have. -/
def isF (cs : List DV) (n : Nat) : Prop := cs = cellsF (rowF cs) ∧ n = (rowF cs).length ∧ okL (rowF cs)
theorem isF.closed {cs : List DV} {n : Nat} (h : isF cs n) : closedL 0 cs = true := by
  rw [h.1, cellsF, rowsD]
  exact closedL_data 0 _
theorem isF.mk {L : List FileM} (h : okL L) : isF (cellsF L) L.length := ⟨by rw [rowF_cells], by rw [rowF_cells], by rw [rowF_cells]; exact h⟩
theorem okL.nil : okL [] := ⟨by decide, by decide⟩
def findX (cs : List DV) (name : ByteArray) : Int × Bool := findF name (rowF cs) 0
def totX (cs : List DV) : Int := totF (rowF cs)
def knI (cs : List DV) (o : Bool) (name : ByteArray) : Int := bif o then 0 else bif (findX cs name).2 then (findX cs name).1 else 0
def knE (cs : List DV) (o : Bool) (name : ByteArray) : Int := bif o then 10 else bif (findX cs name).2 then 0 else 8
def roomX (cs : List DV) (q : Int) : Int := q - totX cs
structure FsK where
  find : List DV → ByteArray → Int × Bool
  tot : List DV → Int
  knI : List DV → Bool → ByteArray → Int
  knE : List DV → Bool → ByteArray → Int
  room : List DV → Int → Int
  powE : Bool → Int → Int
  powO : Bool → Bool → Int → Bool
  powL : Bool → Int → Int
  isF : List DV → Nat → Prop
  same : Nat → Nat → Prop
  okq : Int → Prop
  okl : Int → Prop
def FsK0 : FsK where
  find := findX
  tot := totX
  knI := knI
  knE := knE
  room := roomX
  powE := powE
  powO := powO
  powL := powL
  isF := isF
  same := (· = ·)
  okq := (fun q => 0 ≤ q ∧ q ≤ 1048576)
  okl := (fun l => 0 ≤ l ∧ l ≤ 9223372036854775807)
def kb_find (F : FsK) : FuncId × (List DV → Store → SV) := (31, fun args st => match args with
  | [.ref b ver o0, .d (.sc (.string name))] => (match st[b]? with
    | some ⟨t, [.d (.sc (.int .i64 q)), .d (.sc (.slice none 0 0)), .d (.sc (.bool o)), .d (.sc (.bool a)), .d (.sc (.int .i64 l))], false, bv, true⟩ => (bif (ver == 0) && (o0 == 0) && (bv == 0) && (t == 59) then some ([], .tup [.d (.sc (.int .i64 (F.find [] name).1)), .d (.sc (.bool (F.find [] name).2))], st.set b (dB q (.d (.sc (.slice none 0 0))) o a l)) else none)
    | some ⟨t, [.d (.sc (.int .i64 q)), .view sz c v off n, .d (.sc (.bool o)), .d (.sc (.bool a)), .d (.sc (.int .i64 l))], false, bv, true⟩ => (match st[c]? with
      | some ⟨t2, cs, true, v2, true⟩ => (bif (ver == 0) && (o0 == 0) && (bv == 0) && (t == 59) && (sz == 3) && (off == 0) && (t2 == 65) && !(b == c) then some ([F.same v2 v, F.isF cs n], .tup [.d (.sc (.int .i64 (F.find cs name).1)), .d (.sc (.bool (F.find cs name).2))], (st.set b (dB q (.view 3 c v 0 n) o a l)).set c (fB cs v)) else none)
      | _ => none)
    | _ => none)
  | _ => none)
theorem okb_find (args : List DV) (st : Store) (cs : List Prop) (r : DV) (st' : Store) (h : (kb_find FsK0).2 args st = some (cs, r, st')) (hc : allP cs True) (K : DV → Store → Prop) (hk : K r st') : FnD Try.prog 31 args st K := by
  unfold kb_find at h
  simp only at h
  split at h
  · split at h
    · rename_i hb
      simp only [cond_eq_ite, Bool.and_eq_true, beq_iff_eq, Option.ite_none_right_eq_some] at h
      obtain ⟨⟨⟨⟨rfl, rfl⟩, rfl⟩, rfl⟩, h⟩ := h
      cases h
      refine FnD.dk0 (β := Unit) (G := fun _ => True) (fr' := fun _ => none) _ (FnD.mono (w_find _ none _ _ _ [] _ rfl okL.nil) fun r st' h => ⟨(), trivial, h.1, h.2⟩) hb rfl (fun _ _ => rfl) (fun _ _ _ _ _ h => by cases h) fun _ _ => ⟨fun _ => hk, fun _ _ _ h => by cases h⟩
    · rename_i hb
      split at h
      · rename_i hb2
        simp only [cond_eq_ite, Bool.and_eq_true, beq_iff_eq, Option.ite_none_right_eq_some, Bool.not_eq_true', beq_eq_false_iff_ne] at h
        obtain ⟨⟨⟨⟨⟨⟨⟨⟨rfl, rfl⟩, rfl⟩, rfl⟩, rfl⟩, rfl⟩, rfl⟩, hbc⟩, h⟩ := h
        cases h
        have hc1 : _ = _ := hc.1
        subst hc1
        have hc2 : isF _ _ := hc.2.1
        refine FnD.dk (β := Unit) (G := fun _ => True) _ _ (FnD.mono (w_find _ (some _) _ _ _ _ _ ⟨hc2.1, hc2.2.1⟩ hc2.2.2) fun r st' h => ⟨(), trivial, h.1, h.2⟩) hb hb2 hbc rfl (fun _ _ => rfl) hc2.closed (fun _ _ => hc2.closed) fun _ _ => hk
      · cases h
    · cases h
  · cases h
def kb_total (F : FsK) : FuncId × (List DV → Store → SV) := (19, fun args st => match args with
  | [.ref b ver o0] => (match st[b]? with
    | some ⟨t, [.d (.sc (.int .i64 q)), .d (.sc (.slice none 0 0)), .d (.sc (.bool o)), .d (.sc (.bool a)), .d (.sc (.int .i64 l))], false, bv, true⟩ => (bif (ver == 0) && (o0 == 0) && (bv == 0) && (t == 59) then some ([], .d (.sc (.int .i64 (F.tot []))), st.set b (dB q (.d (.sc (.slice none 0 0))) o a l)) else none)
    | some ⟨t, [.d (.sc (.int .i64 q)), .view sz c v off n, .d (.sc (.bool o)), .d (.sc (.bool a)), .d (.sc (.int .i64 l))], false, bv, true⟩ => (match st[c]? with
      | some ⟨t2, cs, true, v2, true⟩ => (bif (ver == 0) && (o0 == 0) && (bv == 0) && (t == 59) && (sz == 3) && (off == 0) && (t2 == 65) && !(b == c) then some ([F.same v2 v, F.isF cs n], .d (.sc (.int .i64 (F.tot cs))), (st.set b (dB q (.view 3 c v 0 n) o a l)).set c (fB cs v)) else none)
      | _ => none)
    | _ => none)
  | _ => none)
theorem okb_total (args : List DV) (st : Store) (cs : List Prop) (r : DV) (st' : Store) (h : (kb_total FsK0).2 args st = some (cs, r, st')) (hc : allP cs True) (K : DV → Store → Prop) (hk : K r st') : FnD Try.prog 19 args st K := by
  unfold kb_total at h
  simp only at h
  split at h
  · split at h
    · rename_i hb
      simp only [cond_eq_ite, Bool.and_eq_true, beq_iff_eq, Option.ite_none_right_eq_some] at h
      obtain ⟨⟨⟨⟨rfl, rfl⟩, rfl⟩, rfl⟩, h⟩ := h
      cases h
      refine FnD.dk0 (β := Unit) (G := fun _ => True) (fr' := fun _ => none) _ (FnD.mono (w_total _ none _ _ _ [] rfl okL.nil) fun r st' h => ⟨(), trivial, h.1, h.2⟩) hb rfl (fun _ _ => rfl) (fun _ _ _ _ _ h => by cases h) fun _ _ => ⟨fun _ => hk, fun _ _ _ h => by cases h⟩
    · rename_i hb
      split at h
      · rename_i hb2
        simp only [cond_eq_ite, Bool.and_eq_true, beq_iff_eq, Option.ite_none_right_eq_some, Bool.not_eq_true', beq_eq_false_iff_ne] at h
        obtain ⟨⟨⟨⟨⟨⟨⟨⟨rfl, rfl⟩, rfl⟩, rfl⟩, rfl⟩, rfl⟩, rfl⟩, hbc⟩, h⟩ := h
        cases h
        have hc1 : _ = _ := hc.1
        subst hc1
        have hc2 : isF _ _ := hc.2.1
        refine FnD.dk (β := Unit) (G := fun _ => True) _ _ (FnD.mono (w_total _ (some _) _ _ _ _ ⟨hc2.1, hc2.2.1⟩ hc2.2.2) fun r st' h => ⟨(), trivial, h.1, h.2⟩) hb hb2 hbc rfl (fun _ _ => rfl) hc2.closed (fun _ _ => hc2.closed) fun _ _ => hk
      · cases h
    · cases h
  · cases h
def kb_power (F : FsK) : FuncId × (List DV → Store → SV) := (30, fun args st => match args with
  | [.ref b ver o0] => (match st[b]? with
    | some ⟨t, [.d (.sc (.int .i64 q)), .d (.sc (.slice none 0 0)), .d (.sc (.bool o)), .d (.sc (.bool a)), .d (.sc (.int .i64 l))], false, bv, true⟩ => (bif (ver == 0) && (o0 == 0) && (bv == 0) && (t == 59) then some ([F.okl l], .d (.sc (.int .i64 (F.powE a l))), st.set b (dB q (.d (.sc (.slice none 0 0))) (F.powO o a l) a (F.powL a l))) else none)
    | some ⟨t, [.d (.sc (.int .i64 q)), .view sz c v off n, .d (.sc (.bool o)), .d (.sc (.bool a)), .d (.sc (.int .i64 l))], false, bv, true⟩ => (match st[c]? with
      | some ⟨t2, cs, true, v2, true⟩ => (bif (ver == 0) && (o0 == 0) && (bv == 0) && (t == 59) && (sz == 3) && (off == 0) && (t2 == 65) && !(b == c) then some ([F.same v2 v, F.isF cs n, F.okl l], .d (.sc (.int .i64 (F.powE a l))), (st.set b (dB q (.view 3 c v 0 n) (F.powO o a l) a (F.powL a l))).set c (fB cs v)) else none)
      | _ => none)
    | _ => none)
  | _ => none)
theorem okb_power (args : List DV) (st : Store) (cs : List Prop) (r : DV) (st' : Store) (h : (kb_power FsK0).2 args st = some (cs, r, st')) (hc : allP cs True) (K : DV → Store → Prop) (hk : K r st') : FnD Try.prog 30 args st K := by
  unfold kb_power at h
  simp only at h
  split at h
  · split at h
    · rename_i hb
      simp only [cond_eq_ite, Bool.and_eq_true, beq_iff_eq, Option.ite_none_right_eq_some] at h
      obtain ⟨⟨⟨⟨rfl, rfl⟩, rfl⟩, rfl⟩, h⟩ := h
      cases h
      refine FnD.dk0 (β := Unit) (G := fun _ => True) (fr' := fun _ => none) _ (FnD.mono (w_power _ none _ _ _ hc.1) fun r st' h => ⟨(), trivial, h.1, h.2⟩) hb rfl (fun _ _ => rfl) (fun _ _ _ _ _ h => by cases h) fun _ _ => ⟨fun _ => hk, fun _ _ _ h => by cases h⟩
    · rename_i hb
      split at h
      · rename_i hb2
        simp only [cond_eq_ite, Bool.and_eq_true, beq_iff_eq, Option.ite_none_right_eq_some, Bool.not_eq_true', beq_eq_false_iff_ne] at h
        obtain ⟨⟨⟨⟨⟨⟨⟨⟨rfl, rfl⟩, rfl⟩, rfl⟩, rfl⟩, rfl⟩, rfl⟩, hbc⟩, h⟩ := h
        cases h
        have hc1 : _ = _ := hc.1
        subst hc1
        have hc2 : isF _ _ := hc.2.1
        refine FnD.dk (β := Unit) (G := fun _ => True) _ _ (FnD.mono (w_power _ (some _) _ _ _ hc.2.2.1) fun r st' h => ⟨(), trivial, h.1, h.2⟩) hb hb2 hbc rfl (fun _ _ => rfl) hc2.closed (fun _ _ => hc2.closed) fun _ _ => hk
      · cases h
    · cases h
  · cases h
def kb_off (F : FsK) : FuncId × (List DV → Store → SV) := (17, fun args st => match args with
  | [.ref b ver o0] => (match st[b]? with
    | some ⟨t, [.d (.sc (.int .i64 q)), .d (.sc (.slice none 0 0)), .d (.sc (.bool o)), .d (.sc (.bool a)), .d (.sc (.int .i64 l))], false, bv, true⟩ => (bif (ver == 0) && (o0 == 0) && (bv == 0) && (t == 59) then some ([], .d (.sc (.bool o)), st.set b (dB q (.d (.sc (.slice none 0 0))) o a l)) else none)
    | some ⟨t, [.d (.sc (.int .i64 q)), .view sz c v off n, .d (.sc (.bool o)), .d (.sc (.bool a)), .d (.sc (.int .i64 l))], false, bv, true⟩ => (match st[c]? with
      | some ⟨t2, cs, true, v2, true⟩ => (bif (ver == 0) && (o0 == 0) && (bv == 0) && (t == 59) && (sz == 3) && (off == 0) && (t2 == 65) && !(b == c) then some ([F.same v2 v, F.isF cs n], .d (.sc (.bool o)), (st.set b (dB q (.view 3 c v 0 n) o a l)).set c (fB cs v)) else none)
      | _ => none)
    | _ => none)
  | _ => none)
theorem okb_off (args : List DV) (st : Store) (cs : List Prop) (r : DV) (st' : Store) (h : (kb_off FsK0).2 args st = some (cs, r, st')) (hc : allP cs True) (K : DV → Store → Prop) (hk : K r st') : FnD Try.prog 17 args st K := by
  unfold kb_off at h
  simp only at h
  split at h
  · split at h
    · rename_i hb
      simp only [cond_eq_ite, Bool.and_eq_true, beq_iff_eq, Option.ite_none_right_eq_some] at h
      obtain ⟨⟨⟨⟨rfl, rfl⟩, rfl⟩, rfl⟩, h⟩ := h
      cases h
      refine FnD.dk0 (β := Unit) (G := fun _ => True) (fr' := fun _ => none) _ (FnD.mono (w_off _ none _ _ _) fun r st' h => ⟨(), trivial, h.1, h.2⟩) hb rfl (fun _ _ => rfl) (fun _ _ _ _ _ h => by cases h) fun _ _ => ⟨fun _ => hk, fun _ _ _ h => by cases h⟩
    · rename_i hb
      split at h
      · rename_i hb2
        simp only [cond_eq_ite, Bool.and_eq_true, beq_iff_eq, Option.ite_none_right_eq_some, Bool.not_eq_true', beq_eq_false_iff_ne] at h
        obtain ⟨⟨⟨⟨⟨⟨⟨⟨rfl, rfl⟩, rfl⟩, rfl⟩, rfl⟩, rfl⟩, rfl⟩, hbc⟩, h⟩ := h
        cases h
        have hc1 : _ = _ := hc.1
        subst hc1
        have hc2 : isF _ _ := hc.2.1
        refine FnD.dk (β := Unit) (G := fun _ => True) _ _ (FnD.mono (w_off _ (some _) _ _ _) fun r st' h => ⟨(), trivial, h.1, h.2⟩) hb hb2 hbc rfl (fun _ _ => rfl) hc2.closed (fun _ _ => hc2.closed) fun _ _ => hk
      · cases h
    · cases h
  · cases h
end Go.Proofs.Ytmjmbfcfnhnpmaa
namespace Go.Proofs.Ytmjmbfcfnhnpmaa
open Go.RowKit
set_option linter.all false
set_option maxHeartbeats 4000000
/-- Bytes of a file. -/
def isB (xs : List (List PD)) : Prop := ∃ bs, xs = bytesP bs ∧ bs.length ≤ 4000000
theorem isB.len {xs : List (List PD)} (h : isB xs) : xs.length ≤ 4000000 := by
  obtain ⟨bs, rfl, h⟩ := h
  rw [bytesP_length]; exact h
theorem isB.sz {xs : List (List PD)} (h : isB xs) : ∀ x ∈ xs, x.length = 1 := by
  obtain ⟨bs, rfl, h⟩ := h
  exact bytesP_sz bs
def idX (xs : List (List PD)) : List (List PD) := xs
/-- A row of one's own that shows these, or nothing. -/
def ownB (xs : List (List PD)) (r : DV) (st : Store) : Prop := (xs = [] ∧ r = nilS ∧ st = []) ∨ ∃ v m cs, cs = rowsD xs ∧ m = xs.length ∧ r = .view 1 0 v 0 m ∧ st = [⟨5, cs, true, v, true⟩]
theorem FnV.own {P : Program} {f : FuncId} {args : List DV} {xs : List (List PD)} (hx : isB xs) (h : FnD P f args [] (ownB xs)) : FnV P f args (.d (.slc 1 xs)) := by
  refine FnD.ret (h.mono ?_)
  rintro r st (⟨rfl, rfl, rfl⟩ | ⟨v, m, cs, rfl, rfl, rfl, rfl⟩)
  · exact ret_nil rfl
  · exact ret_slice (bx := ⟨5, _, true, v, true⟩) rfl rfl rfl rfl rfl hx.sz rfl
set_option maxRecDepth 100000 in
theorem w_clone (xs : List (List PD)) (hp0 : isB xs) : FnD Try.prog 35 [.d (.slc 1 xs)] [] (ownB xs) := by
  rcases xs with _ | ⟨x, xs⟩
  · refine FnD_cbv (T := fun _ => tabY [] []) (H := fun _ => []) (tabY_ok _ _) noK_ok follows_mixed Try.func35 rfl Try.ntmps35 (by simp) fun A X W hA hX hW => ?_
    cbv
    refine nilTestL hX tab_ok (sz := 1) (sz' := 1) (e := 5) rfl rfl ?_ ?_
    · cbv
      subst hA hX hW
      exact RetW.refl (.inl ⟨rfl, rfl, rfl⟩)
    · cbv
      subst hA hX hW
      refine ⟨rfl, rfl, ?_, ?_⟩
      · simp [A0]
      · exact RetW.refl (.inr ⟨1, 0, [], rfl, rfl, rfl, rfl⟩)
  · refine FnD_cbv (T := fun _ => tabY [] []) (H := fun _ => []) (tabY_ok _ _) noK_ok follows_mixed Try.func35 rfl Try.ntmps35 (by simp) fun A X W hA hX hW => ?_
    cbv
    subst hA hX hW
    refine ⟨rfl, rfl, ?_, ?_⟩
    · have := isB.len hp0
      simp only [A0]
      generalize (x :: xs).length = n at *
      omega
    · exact RetW.refl (.inr ⟨1, (x :: xs).length, rowsD (x :: xs), rfl, rfl, by simp [A0], rfl⟩)
theorem v_clone (xs : List (List PD)) (hp0 : isB xs) : FnV Try.prog 35 [.d (.slc 1 xs)] (.d (.slc 1 (idX xs))) := FnV.own hp0 (w_clone xs hp0)
/-- Nothing's beginning. -/
theorem nilSliceH {P : Program} {N : Nat} {X : Cps} (hX : X = X0 P N) {T : Tab} (hT : TabOk P T) {t sz e : Nat} {k : IntKind} {x hi : Operand} {s : SL} {st : Store} {K : DV → Store → Prop}
    (h1 : T.sl t = some (e, sz)) (hx : ev (getS s) x = .d (.sc (.slice none 0 0))) (hl : ev (getS s) hi = .d (.sc (.int k 0))) (hk : K nilS st) : X.op (.slice t x none (some hi) none) s st K := by
  refine opL hX ?_
  simp only [opD, hx, sliceD, hT.sl _ _ h1, Option.map_some, hl, Option.map_none, boundD, intOfD]
  exact ⟨by simp, hk⟩
set_option maxRecDepth 100000 in
theorem w_grow (n : Int) (hn : 0 ≤ n ∧ n ≤ 8000000) : FnD Try.prog 50 [nilS, .d (.sc (.int .i64 n))] [] (fun r st' => (n = 0 ∧ r = nilS ∧ st' = []) ∨ ∃ v, r = .view 1 0 v 0 0 ∧ st' = [⟨5, [], true, v, true⟩]) := by
  refine FnD_cbv (T := fun _ => tabY [] []) (H := fun _ => []) (tabY_ok _ _) noK_ok follows_mixed Try.func50 rfl Try.ntmps50 (by simp) fun A X W hA hX hW => ?_
  cbv
  repeat' first
    | (refine part (fun h => ?_) (fun h => ?_) <;> try cbv)
    | (refine And.intro ?_ ?_)
  all_goals try (refine nilSliceH hX tab_ok (sz := 1) (e := 5) rfl rfl rfl ?_; cbv)
  all_goals try (subst hA hX hW; simp only [A0, nc, decide_eq_true_eq, decide_eq_false_iff_not] at *; exfalso; omega)
  · repeat' (refine And.intro ?_ ?_)
    all_goals subst hA hX hW
    all_goals simp only [A0, nc, decide_eq_true_eq, decide_eq_false_iff_not] at *
    all_goals have e : IntKind.wrap .i64 (n - IntKind.wrap .i64 (0 - 0)) = n := by rw [show IntKind.wrap .i64 (0 - 0) = 0 by decide, Int.sub_zero]; exact wrap_i64 (by unfold r64; omega)
    all_goals rw [e] at h
    all_goals try rw [e]
    all_goals first
      | omega
      | rfl
      | (refine ret_hide 0 0 _ rfl ?_
         exact RetW.refl (.inr ⟨0, rfl, rfl⟩))
      | fail
  · subst hA hX hW
    simp only [A0, nc, decide_eq_true_eq, decide_eq_false_iff_not] at *
    have e : IntKind.wrap .i64 (n - IntKind.wrap .i64 (0 - 0)) = n := by rw [show IntKind.wrap .i64 (0 - 0) = 0 by decide, Int.sub_zero]; exact wrap_i64 (by unfold r64; omega)
    rw [e] at h
    exact RetW.refl (.inl ⟨by omega, rfl, rfl⟩)
set_option maxRecDepth 100000 in
theorem v_concat (xs ys : List (List PD)) (hp0 : isB xs) (hp1 : isB ys) (hp2 : xs.length + ys.length ≤ 8000000) : FnV Try.prog 33 [.d (.slc 1 [[.slc 1 xs], [.slc 1 ys]])] (.d (.slc 1 (xs ++ ys))) := by
  refine FnD_cbv (T := fun _ => tabY [5003] []) (H := fun _ => []) (tabY_ok _ _) noK_ok follows_mixed Try.func33 rfl Try.ntmps33 (by simp) fun A X W hA hX hW => ?_
  cbv
  have l0 : A.cmp .lss 0 2 = true := by subst hA; rfl
  cbv at l0
  have l1 : A.cmp .lss 1 2 = true := by subst hA; rfl
  cbv at l1
  have l2 : A.cmp .lss 2 2 = false := by subst hA; rfl
  cbv at l2
  have b0 : A.bin .add .i64 0 1 = 1 := by subst hA; rfl
  cbv at b0
  have b1 : A.bin .add .i64 1 1 = 2 := by subst hA; rfl
  cbv at b1
  have o0_0 : A.off 0 0 1 = 0 := by subst hA; rfl
  cbv at o0_0
  have o0_1 : A.off 0 1 1 = 1 := by subst hA; rfl
  cbv at o0_1
  have ln : A.len [[.slc 1 xs], [.slc 1 ys]] = 2 := by subst hA; rfl
  cbv at ln
  have rw0 : A.row [[.slc 1 xs], [.slc 1 ys]] 0 = [.slc 1 xs] := by subst hA; rfl
  cbv at rw0
  have rw1 : A.row [[.slc 1 xs], [.slc 1 ys]] 1 = [.slc 1 ys] := by subst hA; rfl
  cbv at rw1
  have hxl := hp0.len
  have hyl := hp1.len
  obtain ⟨n0, hn0⟩ : ∃ n0 : Int, n0 = xs.length := ⟨_, rfl⟩
  obtain ⟨n1, hn1⟩ : ∃ n1 : Int, n1 = n0 + ys.length := ⟨_, rfl⟩
  have s0 : A.bin .add .i64 0 (A.len xs) = n0 := by
    subst hA
    show IntKind.wrap .i64 (0 + (xs.length : Int)) = n0
    rw [Int.zero_add, wrap_i64 (by unfold r64; omega), hn0]
  have s1 : A.bin .add .i64 n0 (A.len ys) = n1 := by
    subst hA
    show IntKind.wrap .i64 (n0 + (ys.length : Int)) = n1
    rw [wrap_i64 (by unfold r64; omega), hn1]
  have s2 : A.cmp .lss n0 0 = false := by subst hA; simp only [A0, decide_eq_false_iff_not]; omega
  have s3 : A.cmp .lss n1 0 = false := by subst hA; simp only [A0, decide_eq_false_iff_not]; omega
  have hn2 : 0 ≤ n1 ∧ n1 ≤ 8000000 := by omega
  have hz0 : n1 = 0 → xs = [] ∧ ys = [] := fun h => ⟨List.eq_nil_of_length_eq_zero (by omega), List.eq_nil_of_length_eq_zero (by omega)⟩
  cbv at s0
  cbv at s1
  cbv at s2
  cbv at s3
  refine unrollL (T := fun _ => tabY [5003] []) (H := fun _ => []) (tabY_ok _ _) noK_ok follows_mixed hA hX 3 fun R hR => ?_
  cbv
  repeat' first
    | (simp only [l0, l1, l2, b0, b1, o0_0, o0_1, ln, rw0, rw1, s0, s1, s2, s3, decide_true]; cbv)
    | (refine part (fun h => ?_) (fun h => ?_) <;> try cbv)
    | (refine And.intro ?_ ?_)
    | (refine hR _ _ _ ?_; cbv)
  all_goals try (show A.inb 0 2; subst hA; exact (⟨by decide, by decide⟩ : (0 : Int) ≤ 0 ∧ (0 : Int) < 2))
  all_goals try (show A.inb 1 2; subst hA; exact (⟨by decide, by decide⟩ : (0 : Int) ≤ 1 ∧ (1 : Int) < 2))
  refine callL hX ((w_grow n1 hn2).mono ?_)
  rintro r st' (⟨hz, rfl, rfl⟩ | ⟨v, rfl, rfl⟩)
  all_goals cbv
  all_goals simp only [ln]
  all_goals refine unrollL (T := fun _ => tabY [5003] []) (H := fun _ => []) (tabY_ok _ _) noK_ok follows_mixed hA hX 3 fun R2 hR2 => ?_
  all_goals cbv
  · obtain ⟨hx0, hy0⟩ := hz0 hz
    repeat' first
      | (simp only [l0, l1, l2, b0, b1, o0_0, o0_1, ln, rw0, rw1, s0, s1, s2, s3, decide_true]; cbv)
      | (refine part (fun h => ?_) (fun h => ?_) <;> try cbv)
      | (refine And.intro ?_ ?_)
      | (refine hR2 _ _ _ ?_; cbv)
      | (refine appendNilL hX tab_ok (t := 27) (sz := 1) (e := 5) (by8 := 1) (xs := xs) rfl rfl rfl rfl (by decide) rfl rfl ⟨by omega, by omega⟩ (fun _ => ?_) (fun _ _ _ _ q => absurd hx0 q); cbv)
      | (refine appendNilL hX tab_ok (t := 27) (sz := 1) (e := 5) (by8 := 1) (xs := ys) rfl rfl rfl rfl (by decide) rfl rfl ⟨by omega, by omega⟩ (fun _ => ?_) (fun _ _ _ _ q => absurd hy0 q); cbv)
    all_goals try (show A.inb 0 2; subst hA; exact (⟨by decide, by decide⟩ : (0 : Int) ≤ 0 ∧ (0 : Int) < 2))
    all_goals try (show A.inb 1 2; subst hA; exact (⟨by decide, by decide⟩ : (0 : Int) ≤ 1 ∧ (1 : Int) < 2))
    all_goals subst hA hX hW
    all_goals first
      | (rw [hx0, hy0]; exact ret_nil rfl)
      | fail
  · repeat' first
      | (simp only [l0, l1, l2, b0, b1, o0_0, o0_1, ln, rw0, rw1, s0, s1, s2, s3, decide_true]; cbv)
      | (refine part (fun h => ?_) (fun h => ?_) <;> try cbv)
      | (refine And.intro ?_ ?_)
      | (refine hR2 _ _ _ ?_; cbv)
    all_goals try (show A.inb 0 2; subst hA; exact (⟨by decide, by decide⟩ : (0 : Int) ≤ 0 ∧ (0 : Int) < 2))
    all_goals try (show A.inb 1 2; subst hA; exact (⟨by decide, by decide⟩ : (0 : Int) ≤ 1 ∧ (1 : Int) < 2))
    all_goals subst hA hX hW
    all_goals first
      | exact rfl
      | (show List.length _ = _ * 1
         simp only [A0, List.nil_append, rowsD_len hp0.sz]
         omega)
      | (simp only [A0]; refine ⟨by omega, by omega⟩)
      | (refine ret_slice (xs := xs ++ ys) (bx := ⟨5, _, true, _, true⟩) rfl rfl rfl ?_ ?_ ?_ rfl
         · simp [A0]
         · simp [A0, rowsD_append]
         · intro x hx
           rcases List.mem_append.1 hx with h | h
           · exact hp0.sz x h
           · exact hp1.sz x h)
      | fail
def catX (xs ys : List (List PD)) : List (List PD) := xs ++ ys
/-- Bytes of two files at most. -/
def isB2 (xs ys : List (List PD)) : Prop := isB xs ∧ isB ys
theorem v_cat (xs ys : List (List PD)) (h : isB2 xs ys) : FnV Try.prog 33 [.d (.slc 1 [[.slc 1 xs], [.slc 1 ys]])] (.d (.slc 1 (catX xs ys))) := v_concat xs ys h.1 h.2 (by have := h.1.len; have := h.2.len; omega)
structure FsB where
  clone : List (List PD) → List (List PD)
  cat : List (List PD) → List (List PD) → List (List PD)
  isB : List (List PD) → Prop
  isB2 : List (List PD) → List (List PD) → Prop
def FsB0 : FsB where
  clone := idX
  cat := catX
  isB := isB
  isB2 := isB2
def kn_clone (F : FsB) : FuncId × (List DV → RV) := (35, fun args => match args with
  | [.d (.slc 1 xs)] => some ([F.isB xs], .d (.slc 1 (F.clone xs)))
  | [.d (.sc (.slice none 0 0))] => some ([F.isB []], .d (.slc 1 (F.clone [])))
  | _ => none)
theorem ok_clone (args : List DV) (cs : List Prop) (r : DV) (h : (kn_clone FsB0).2 args = some (cs, r)) (hc : allP cs True) : FnV Try.prog 35 args r ∧ closedL 0 args = true := by
  unfold kn_clone at h
  simp only at h
  split at h
  · cases h; exact ⟨v_clone _ hc.1, rfl⟩
  · cases h; exact ⟨FnP.nils (v_clone [] hc.1) ⟨.inr ⟨rfl, _, rfl⟩, trivial⟩, rfl⟩
  · cases h
def kn_cat (F : FsB) : FuncId × (List DV → RV) := (33, fun args => match args with
  | [.d (.slc 1 [[.slc 1 xs], [.slc 1 ys]])] => some ([F.isB2 xs ys], .d (.slc 1 (F.cat xs ys)))
  | _ => none)
theorem ok_cat (args : List DV) (cs : List Prop) (r : DV) (h : (kn_cat FsB0).2 args = some (cs, r)) (hc : allP cs True) : FnV Try.prog 33 args r ∧ closedL 0 args = true := by
  unfold kn_cat at h
  simp only at h
  split at h
  · cases h; exact ⟨v_cat _ _ hc.1, rfl⟩
  · cases h
end Go.Proofs.Ytmjmbfcfnhnpmaa
namespace Go.Proofs.Ytmjmbfcfnhnpmaa
open Go.RowKit
set_option linter.all false
set_option maxHeartbeats 4000000
/-- A disk. -/
structure Dk where
  q : Int
  L : List FileM
  o : Bool
  a : Bool
  l : Int
def okFile (f : FileM) : Prop := isB f.data ∧ 0 ≤ f.kept ∧ f.kept ≤ f.data.length
/-- A disk is right: what it has is in its room; no more than so many files. -/
structure okD (k : Nat) (D : Dk) : Prop where
  q : 0 ≤ D.q ∧ D.q ≤ 1048576
  tot : totF D.L ≤ D.q
  len : D.L.length ≤ k
  fs : ∀ f ∈ D.L, okFile f
  l : 0 ≤ D.l ∧ D.l ≤ 9223372036854775807
theorem okD.okL {k : Nat} {D : Dk} (h : okD k D) (hk : k ≤ 1000) : okL D.L := ⟨by have := h.tot; have := h.q; omega, by have := h.len; omega⟩
theorem okD.mono {k m : Nat} {D : Dk} (h : okD k D) (hk : k ≤ m) : okD m D := ⟨h.q, h.tot, Nat.le_trans h.len hk, h.fs, h.l⟩
def Dk.pow (D : Dk) : Int × Dk := (powE D.a D.l, ⟨D.q, D.L, powO D.o D.a D.l, D.a, powL D.a D.l⟩)
def Dk.at (D : Dk) (name : ByteArray) : Nat := (findF name D.L 0).1.toNat
def setKept (L : List FileM) (i : Nat) : List FileM := match L[i]? with
  | some f => L.set i ⟨f.name, f.data, f.data.length⟩
  | none => L
/-- The bytes of a file, if there is such a one. -/
def Dk.read (D : Dk) (name : ByteArray) : List (List PD) × Bool := if (findF name D.L 0).2 = true then (match D.L[D.at name]? with
  | some f => (f.data, true)
  | none => ([], true)) else ([], false)
theorem set_kept : ∀ (L : List FileM) (i : Nat) (f : FileM), L[i]? = some f → ∀ k : Int, splice (cellsF L) (i * 3 + 2) [.d (.sc (.int .i64 k))] = cellsF (L.set i ⟨f.name, f.data, k⟩)
  | [], i, f, h, k => by simp at h
  | g :: L, 0, f, h, k => by
      simp at h
      subst h
      rfl
  | g :: L, i + 1, f, h, k => by
      simp at h
      have ih := set_kept L i f h k
      rw [List.set_cons_succ, cellsF_cons, cellsF_cons, ← ih, show (i + 1) * 3 + 2 = i * 3 + 2 + 3 by omega]
      simp [splice, List.take_succ_cons, List.drop_succ_cons]
theorem set_data : ∀ (L : List FileM) (i : Nat) (f : FileM), L[i]? = some f → ∀ b : List (List PD), splice (cellsF L) (i * 3 + 1) [.d (.slc 1 b)] = cellsF (L.set i ⟨f.name, b, f.kept⟩)
  | [], i, f, h, k => by simp at h
  | g :: L, 0, f, h, k => by
      simp at h
      subst h
      rfl
  | g :: L, i + 1, f, h, k => by
      simp at h
      have ih := set_data L i f h k
      rw [List.set_cons_succ, cellsF_cons, cellsF_cons, ← ih, show (i + 1) * 3 + 1 = i * 3 + 1 + 3 by omega]
      simp [splice, List.take_succ_cons, List.drop_succ_cons]
theorem find_get {name : ByteArray} : ∀ {L : List FileM} {i : Int}, (findF name L i).2 = true → ∃ f, L[((findF name L i).1 - i).toNat]? = some f ∧ f.name = name
  | [], i, h => by simp [findF] at h
  | g :: L, i, h => by
      unfold findF at h ⊢
      split at h
      · rename_i hlt
        rw [if_pos hlt]
        obtain ⟨f, h1, h2⟩ := find_get h
        have hr := (findF_range name L (i + 1)).1
        refine ⟨f, ?_, h2⟩
        rw [show ((findF name L (i + 1)).1 - i).toNat = ((findF name L (i + 1)).1 - (i + 1)).toNat + 1 by omega]
        exact h1
      · rename_i hlt
        rw [if_neg hlt]
        simp only at h
        refine ⟨g, by simp, by simpa using h⟩
theorem Dk.at_get {D : Dk} {name : ByteArray} (h : (findF name D.L 0).2 = true) : ∃ f, D.L[D.at name]? = some f ∧ f.name = name := by
  have := find_get h
  simpa [Dk.at] using this
set_option maxRecDepth 100000 in
theorem w_known (q : Int) (fr : Fr) (o a : Bool) (lf : Int) (L : List FileM) (name : ByteArray) (c0 : List DV) (hfr : fr.is L) (hD : okD 900 ⟨q, L, o, a, lf⟩) (hc0 : c0 = cellsF L) : FnD Try.prog 34 [.ref 0 0 0, .d (.sc (.string name))] (dkS q fr o a lf) (fun r st' => r = .tup [.d (.sc (.int .i64 (knI c0 o name))), .d (.sc (.int .i64 (knE c0 o name)))] ∧ st' = dkS q fr o a lf) := by
  subst hc0
  rcases fr with _ | ⟨v, m, cs⟩
  · have hl0 : L = [] := hfr
    have hkm := trivial
    obtain ⟨GFsK, hFsK⟩ : ∃ F, F = FsK0 := ⟨_, rfl⟩
    have hH : SoundK Try.prog [] := by subst hFsK; exact noK_ok
    have hB : SoundB Try.prog [kb_find GFsK] := by subst hFsK; exact orB_ok okb_find noB_ok
    refine FnD_cbv (T := fun _ => tabY [] []) (H := fun _ => []) (tabY_ok _ _) hH follows_mixed Try.func34 rfl Try.ntmps34 (by simp) fun A X W hA hX hW => ?_
    cbv
    repeat' first
      | (refine part (fun h => ?_) (fun h => ?_) <;> try cbv)
      | (refine And.intro ?_ ?_)
      | (with_reducible refine callB hX hB ?_) <;> cbv
    all_goals subst hA hX hW hFsK
    all_goals clear hH hB
    all_goals try (show Region.lexB _ _ = true; kernel_rfl)
    all_goals try (show turnsB _ = true; kernel_rfl)
    all_goals try simp only [A0, FsK0, decide_eq_true_eq, decide_eq_false_iff_not, Bool.not_eq_true', Bool.not_eq_false'] at *
    all_goals first
      | assumption
      | exact rfl
      | (intro q; exact q)
      | (intro q; simpa using q)
      | (intro _; trivial)
      | exact hD.l
      | exact hD.q
      | (try rw [hcs] at h
         try rw [hcs]
         try rw [hl0]
         refine RetW.refl ⟨?_, ?_⟩
         · have e0 : cellsF [] = [] := rfl
           simp only [knI, knE, e0, *, cond_true, cond_false]
         · rfl)
      | fail
  · obtain ⟨hcs, hm⟩ := hfr
    have hisF : isF cs m := by rw [hcs, hm]; exact isF.mk (hD.okL (by decide))
    have hrow : rowF cs = L := by rw [hcs]; exact rowF_cells L
    have hpull : ∀ κ, pullL κ cs = cs := fun κ => by rw [hcs, pullL_eq]; exact pull_rows κ _
    obtain ⟨GFsK, hFsK⟩ : ∃ F, F = FsK0 := ⟨_, rfl⟩
    have hH : SoundK Try.prog [] := by subst hFsK; exact noK_ok
    have hB : SoundB Try.prog [kb_find GFsK] := by subst hFsK; exact orB_ok okb_find noB_ok
    refine FnD_cbv (T := fun _ => tabY [] []) (H := fun _ => []) (tabY_ok _ _) hH follows_mixed Try.func34 rfl Try.ntmps34 (by simp) fun A X W hA hX hW => ?_
    cbv
    repeat' first
      | (refine part (fun h => ?_) (fun h => ?_) <;> try cbv)
      | (refine And.intro ?_ ?_)
      | (with_reducible refine callB hX hB ?_) <;> cbv
    all_goals subst hA hX hW hFsK
    all_goals clear hH hB
    all_goals try (show Region.lexB _ _ = true; kernel_rfl)
    all_goals try (show turnsB _ = true; kernel_rfl)
    all_goals try simp only [A0, FsK0, decide_eq_true_eq, decide_eq_false_iff_not, Bool.not_eq_true', Bool.not_eq_false'] at *
    all_goals first
      | assumption
      | exact rfl
      | (intro q; exact q)
      | (intro q; simpa using q)
      | (intro _; trivial)
      | exact hD.l
      | exact hD.q
      | (try rw [hcs] at h
         try rw [hcs]
         try rw [hl0]
         refine RetW.refl ⟨?_, ?_⟩
         · have e0 : cellsF [] = [] := rfl
           simp only [knI, knE, e0, *, cond_true, cond_false]
         · rfl)
      | fail
set_option maxRecDepth 100000 in
theorem w_room (q : Int) (fr : Fr) (o a : Bool) (lf : Int) (L : List FileM) (c0 : List DV) (hfr : fr.is L) (hD : okD 900 ⟨q, L, o, a, lf⟩) (hc0 : c0 = cellsF L) : FnD Try.prog 20 [.ref 0 0 0] (dkS q fr o a lf) (fun r st' => r = .d (.sc (.int .i64 (roomX c0 q))) ∧ st' = dkS q fr o a lf) := by
  subst hc0
  rcases fr with _ | ⟨v, m, cs⟩
  · have hl0 : L = [] := hfr
    have hkm := trivial
    obtain ⟨GFsK, hFsK⟩ : ∃ F, F = FsK0 := ⟨_, rfl⟩
    have hH : SoundK Try.prog [] := by subst hFsK; exact noK_ok
    have hB : SoundB Try.prog [kb_total GFsK] := by subst hFsK; exact orB_ok okb_total noB_ok
    refine FnD_cbv (T := fun _ => tabY [] [1]) (H := fun _ => []) (tabY_ok _ _) hH follows_mixed Try.func20 rfl Try.ntmps20 (by simp) fun A X W hA hX hW => ?_
    cbv
    repeat' first
      | (refine part (fun h => ?_) (fun h => ?_) <;> try cbv)
      | (refine And.intro ?_ ?_)
      | (with_reducible refine callB hX hB ?_) <;> cbv
      | (with_reducible refine regionB [19] (T := fun _ => tabY [] []) (H := fun _ => []) (B := fun _ => [kb_total GFsK]) (A := A) (tabY_ok _ _) hH hB follows_mixed hA hX (by kernel_rfl) (by kernel_rfl) ?_) <;> cbv
    all_goals subst hA hX hW hFsK
    all_goals clear hH hB
    all_goals try (show Region.lexB _ _ = true; kernel_rfl)
    all_goals try (show turnsB _ = true; kernel_rfl)
    all_goals try simp only [A0, FsK0, decide_eq_true_eq, decide_eq_false_iff_not, Bool.not_eq_true', Bool.not_eq_false'] at *
    all_goals first
      | assumption
      | exact rfl
      | (intro q; exact q)
      | (intro q; simpa using q)
      | (intro _; trivial)
      | exact hD.l
      | exact hD.q
      | (have ht := hD.tot
         have hq := hD.q
         have h0 := totF_nonneg L
         simp only at ht hq
         have e : totX cs = totF L := by unfold totX; rw [hrow]
         rw [e]
         have ew : IntKind.wrap .i64 (q - totF L) = q - totF L := wrap_i64 (by unfold r64; omega)
         refine RetW.refl ⟨?_, rfl⟩
         unfold roomX totX
         rw [ew, rowF_cells])
      | (have hq := hD.q
         simp only at hq
         have ew : IntKind.wrap .i64 (q - 0) = q - 0 := wrap_i64 (by unfold r64; omega)
         have e : totX [] = 0 := rfl
         rw [e, ew, hl0]
         exact RetW.refl ⟨rfl, rfl⟩)
      | fail
  · obtain ⟨hcs, hm⟩ := hfr
    have hisF : isF cs m := by rw [hcs, hm]; exact isF.mk (hD.okL (by decide))
    have hrow : rowF cs = L := by rw [hcs]; exact rowF_cells L
    have hpull : ∀ κ, pullL κ cs = cs := fun κ => by rw [hcs, pullL_eq]; exact pull_rows κ _
    obtain ⟨GFsK, hFsK⟩ : ∃ F, F = FsK0 := ⟨_, rfl⟩
    have hH : SoundK Try.prog [] := by subst hFsK; exact noK_ok
    have hB : SoundB Try.prog [kb_total GFsK] := by subst hFsK; exact orB_ok okb_total noB_ok
    refine FnD_cbv (T := fun _ => tabY [] [1]) (H := fun _ => []) (tabY_ok _ _) hH follows_mixed Try.func20 rfl Try.ntmps20 (by simp) fun A X W hA hX hW => ?_
    cbv
    repeat' first
      | (refine part (fun h => ?_) (fun h => ?_) <;> try cbv)
      | (refine And.intro ?_ ?_)
      | (with_reducible refine callB hX hB ?_) <;> cbv
      | (with_reducible refine regionB [19] (T := fun _ => tabY [] []) (H := fun _ => []) (B := fun _ => [kb_total GFsK]) (A := A) (tabY_ok _ _) hH hB follows_mixed hA hX (by kernel_rfl) (by kernel_rfl) ?_) <;> cbv
    all_goals subst hA hX hW hFsK
    all_goals clear hH hB
    all_goals try (show Region.lexB _ _ = true; kernel_rfl)
    all_goals try (show turnsB _ = true; kernel_rfl)
    all_goals try simp only [A0, FsK0, decide_eq_true_eq, decide_eq_false_iff_not, Bool.not_eq_true', Bool.not_eq_false'] at *
    all_goals first
      | assumption
      | exact rfl
      | (intro q; exact q)
      | (intro q; simpa using q)
      | (intro _; trivial)
      | exact hD.l
      | exact hD.q
      | (have ht := hD.tot
         have hq := hD.q
         have h0 := totF_nonneg L
         simp only at ht hq
         have e : totX cs = totF L := by unfold totX; rw [hrow]
         rw [e]
         have ew : IntKind.wrap .i64 (q - totF L) = q - totF L := wrap_i64 (by unfold r64; omega)
         refine RetW.refl ⟨?_, rfl⟩
         unfold roomX totX
         rw [ew, rowF_cells])
      | (have hq := hD.q
         simp only at hq
         have ew : IntKind.wrap .i64 (q - 0) = q - 0 := wrap_i64 (by unfold r64; omega)
         have e : totX [] = 0 := rfl
         rw [e, ew, hl0]
         exact RetW.refl ⟨rfl, rfl⟩)
      | fail
structure FsM where
  knI : List DV → Bool → ByteArray → Int
  knE : List DV → Bool → ByteArray → Int
  room : List DV → Int → Int
  isF : List DV → Nat → Prop
  same : Nat → Nat → Prop
  okD : List DV → Int → Bool → Bool → Int → Prop
def FsM0 : FsM where
  knI := knI
  knE := knE
  room := roomX
  isF := isF
  same := (· = ·)
  okD := (fun cs q o a l => okD 900 ⟨q, rowF cs, o, a, l⟩)
def kb_known (F : FsM) : FuncId × (List DV → Store → SV) := (34, fun args st => match args with
  | [.ref b ver o0, .d (.sc (.string name))] => (match st[b]? with
    | some ⟨t, [.d (.sc (.int .i64 q)), .d (.sc (.slice none 0 0)), .d (.sc (.bool o)), .d (.sc (.bool a)), .d (.sc (.int .i64 l))], false, bv, true⟩ => (bif (ver == 0) && (o0 == 0) && (bv == 0) && (t == 59) then some ([F.okD [] q o a l], .tup [.d (.sc (.int .i64 (F.knI [] o name))), .d (.sc (.int .i64 (F.knE [] o name)))], st.set b (dB q (.d (.sc (.slice none 0 0))) o a l)) else none)
    | some ⟨t, [.d (.sc (.int .i64 q)), .view sz c v off n, .d (.sc (.bool o)), .d (.sc (.bool a)), .d (.sc (.int .i64 l))], false, bv, true⟩ => (match st[c]? with
      | some ⟨t2, cs, true, v2, true⟩ => (bif (ver == 0) && (o0 == 0) && (bv == 0) && (t == 59) && (sz == 3) && (off == 0) && (t2 == 65) && !(b == c) then some ([F.same v2 v, F.isF cs n, F.okD cs q o a l], .tup [.d (.sc (.int .i64 (F.knI cs o name))), .d (.sc (.int .i64 (F.knE cs o name)))], (st.set b (dB q (.view 3 c v 0 n) o a l)).set c (fB cs v)) else none)
      | _ => none)
    | _ => none)
  | _ => none)
theorem okb_known (args : List DV) (st : Store) (cs : List Prop) (r : DV) (st' : Store) (h : (kb_known FsM0).2 args st = some (cs, r, st')) (hc : allP cs True) (K : DV → Store → Prop) (hk : K r st') : FnD Try.prog 34 args st K := by
  unfold kb_known at h
  simp only at h
  split at h
  · split at h
    · rename_i hb
      simp only [cond_eq_ite, Bool.and_eq_true, beq_iff_eq, Option.ite_none_right_eq_some] at h
      obtain ⟨⟨⟨⟨rfl, rfl⟩, rfl⟩, rfl⟩, h⟩ := h
      cases h
      refine FnD.dk0 (β := Unit) (G := fun _ => True) (fr' := fun _ => none) _ (FnD.mono (w_known _ none _ _ _ [] _ [] rfl hc.1 rfl) fun r st' h => ⟨(), trivial, h.1, h.2⟩) hb rfl (fun _ _ => rfl) (fun _ _ _ _ _ h => by cases h) fun _ _ => ⟨fun _ => hk, fun _ _ _ h => by cases h⟩
    · rename_i hb
      split at h
      · rename_i hb2
        simp only [cond_eq_ite, Bool.and_eq_true, beq_iff_eq, Option.ite_none_right_eq_some, Bool.not_eq_true', beq_eq_false_iff_ne] at h
        obtain ⟨⟨⟨⟨⟨⟨⟨⟨rfl, rfl⟩, rfl⟩, rfl⟩, rfl⟩, rfl⟩, rfl⟩, hbc⟩, h⟩ := h
        cases h
        have hc1 : _ = _ := hc.1
        subst hc1
        have hc2 : isF _ _ := hc.2.1
        refine FnD.dk (β := Unit) (G := fun _ => True) _ _ (FnD.mono (w_known _ (some _) _ _ _ _ _ _ ⟨hc2.1, hc2.2.1⟩ hc.2.2.1 hc2.1) fun r st' h => ⟨(), trivial, h.1, h.2⟩) hb hb2 hbc rfl (fun _ _ => rfl) hc2.closed (fun _ _ => hc2.closed) fun _ _ => hk
      · cases h
    · cases h
  · cases h
def kb_room (F : FsM) : FuncId × (List DV → Store → SV) := (20, fun args st => match args with
  | [.ref b ver o0] => (match st[b]? with
    | some ⟨t, [.d (.sc (.int .i64 q)), .d (.sc (.slice none 0 0)), .d (.sc (.bool o)), .d (.sc (.bool a)), .d (.sc (.int .i64 l))], false, bv, true⟩ => (bif (ver == 0) && (o0 == 0) && (bv == 0) && (t == 59) then some ([F.okD [] q o a l], .d (.sc (.int .i64 (F.room [] q))), st.set b (dB q (.d (.sc (.slice none 0 0))) o a l)) else none)
    | some ⟨t, [.d (.sc (.int .i64 q)), .view sz c v off n, .d (.sc (.bool o)), .d (.sc (.bool a)), .d (.sc (.int .i64 l))], false, bv, true⟩ => (match st[c]? with
      | some ⟨t2, cs, true, v2, true⟩ => (bif (ver == 0) && (o0 == 0) && (bv == 0) && (t == 59) && (sz == 3) && (off == 0) && (t2 == 65) && !(b == c) then some ([F.same v2 v, F.isF cs n, F.okD cs q o a l], .d (.sc (.int .i64 (F.room cs q))), (st.set b (dB q (.view 3 c v 0 n) o a l)).set c (fB cs v)) else none)
      | _ => none)
    | _ => none)
  | _ => none)
theorem okb_room (args : List DV) (st : Store) (cs : List Prop) (r : DV) (st' : Store) (h : (kb_room FsM0).2 args st = some (cs, r, st')) (hc : allP cs True) (K : DV → Store → Prop) (hk : K r st') : FnD Try.prog 20 args st K := by
  unfold kb_room at h
  simp only at h
  split at h
  · split at h
    · rename_i hb
      simp only [cond_eq_ite, Bool.and_eq_true, beq_iff_eq, Option.ite_none_right_eq_some] at h
      obtain ⟨⟨⟨⟨rfl, rfl⟩, rfl⟩, rfl⟩, h⟩ := h
      cases h
      refine FnD.dk0 (β := Unit) (G := fun _ => True) (fr' := fun _ => none) _ (FnD.mono (w_room _ none _ _ _ [] [] rfl hc.1 rfl) fun r st' h => ⟨(), trivial, h.1, h.2⟩) hb rfl (fun _ _ => rfl) (fun _ _ _ _ _ h => by cases h) fun _ _ => ⟨fun _ => hk, fun _ _ _ h => by cases h⟩
    · rename_i hb
      split at h
      · rename_i hb2
        simp only [cond_eq_ite, Bool.and_eq_true, beq_iff_eq, Option.ite_none_right_eq_some, Bool.not_eq_true', beq_eq_false_iff_ne] at h
        obtain ⟨⟨⟨⟨⟨⟨⟨⟨rfl, rfl⟩, rfl⟩, rfl⟩, rfl⟩, rfl⟩, rfl⟩, hbc⟩, h⟩ := h
        cases h
        have hc1 : _ = _ := hc.1
        subst hc1
        have hc2 : isF _ _ := hc.2.1
        refine FnD.dk (β := Unit) (G := fun _ => True) _ _ (FnD.mono (w_room _ (some _) _ _ _ _ _ ⟨hc2.1, hc2.2.1⟩ hc.2.2.1 hc2.1) fun r st' h => ⟨(), trivial, h.1, h.2⟩) hb hb2 hbc rfl (fun _ _ => rfl) hc2.closed (fun _ _ => hc2.closed) fun _ _ => hk
      · cases h
    · cases h
  · cases h
end Go.Proofs.Ytmjmbfcfnhnpmaa
namespace Go.Proofs.Ytmjmbfcfnhnpmaa
open Go.RowKit
set_option linter.all false
set_option maxHeartbeats 4000000
/-- The version of the row of files. -/
def Fr.vr : Fr → Nat
  | none => 0
  | some (v, _, _) => v
/-- What a method leaves: the disk, its files kept one way or another. -/
def dkR (fr : Fr) (D : Dk) (res r : DV) (st : Store) : Prop := ∃ fr' : Fr, (fr = none ∧ (fr' = none ∨ D.L ≠ []) ∨ fr ≠ none ∧ fr' ≠ none) ∧ fr'.vr ≤ fr.vr + 9 ∧ fr'.is D.L ∧ r = res ∧ st = dkS D.q fr' D.o D.a D.l
def Dk.know (D : Dk) (name : ByteArray) : Int := knE (cellsF D.L) D.o name
def Dk.sync (D : Dk) (name : ByteArray) : Int × Dk :=
  if D.know name = 0 then (if powE D.a D.l = 0 then (0, ⟨D.q, setKept D.L (D.at name), powO D.o D.a D.l, D.a, powL D.a D.l⟩) else (powE D.a D.l, ⟨D.q, D.L, powO D.o D.a D.l, D.a, powL D.a D.l⟩)) else (D.know name, D)
theorem know_ok {D : Dk} {name : ByteArray} (h : D.know name = 0) : D.o = false ∧ (findF name D.L 0).2 = true ∧ knI (cellsF D.L) D.o name = (D.at name : Int) := by
  unfold Dk.know knE at h
  cases ho : D.o with
  | true => rw [ho] at h; cases h
  | false =>
    rw [ho] at h
    simp only [cond_false, findX, rowF_cells] at h
    cases hf : (findF name D.L 0).2 with
    | false => rw [hf] at h; cases h
    | true =>
      have hr := (findF_range name D.L 0).1
      refine ⟨rfl, rfl, ?_⟩
      simp only [knI, cond_false, findX, rowF_cells, hf, cond_true, Dk.at]
      omega
theorem know_cell {L : List FileM} {cs : List DV} {o : Bool} {name : ByteArray} (hcs : cs = cellsF L) (h : knE cs o name = 0) : ∃ (k : Nat) (f : FileM), knI cs o name = (k : Int) ∧ k = (findF name L 0).1.toNat ∧ L[k]? = some f ∧ k < L.length ∧ o = false ∧ f.name = name ∧
    cs[k * 3 + 1]? = some (.d (.slc 1 f.data)) ∧ cs[k * 3 + 2]? = some (.d (.sc (.int .i64 f.kept))) ∧ (cs.drop (k * 3 + 1)).take 1 = [.d (.slc 1 f.data)] ∧ k * 3 + 3 ≤ cs.length := by
  subst hcs
  obtain ⟨h1, h2, h3⟩ := know_ok (D := ⟨0, L, o, false, 0⟩) h
  obtain ⟨f, h4, h5⟩ := Dk.at_get (D := ⟨0, L, o, false, 0⟩) h2
  have hl := (List.getElem?_eq_some_iff.1 h4).1
  obtain ⟨g0, g1, g2, g3, g4⟩ := file_cell rfl _ hl
  have ef : L[(Dk.mk 0 L o false 0).at name] = f := (List.getElem?_eq_some_iff.1 h4).2
  simp only at *
  rw [ef] at g1 g2
  refine ⟨_, f, h3, rfl, h4, hl, h1, h5, g1, g2, ?_, g4⟩
  obtain ⟨hn, e⟩ := List.getElem?_eq_some_iff.1 g1
  rw [List.drop_eq_getElem_cons hn, e]
  rfl
theorem setKept_some {L : List FileM} {k : Nat} {f : FileM} (h : L[k]? = some f) : setKept L k = L.set k ⟨f.name, f.data, f.data.length⟩ := by
  unfold setKept; rw [h]
theorem know_nil {o : Bool} {name : ByteArray} : knE [] o name ≠ 0 := by
  cases o <;> simp [knE, findX, rowF, findF]
theorem powE_cases (a : Bool) (l : Int) : powE a l = 0 ∨ powE a l = 10 := by
  unfold powE; cases a && decide (l = 0) <;> simp
set_option maxRecDepth 100000 in
theorem w_sync (q : Int) (fr : Fr) (o a : Bool) (lf : Int) (L : List FileM) (name : ByteArray) (hfr : fr.is L) (hD : okD 900 ⟨q, L, o, a, lf⟩) : FnD Try.prog 12 [.ref 0 0 0, .d (.sc (.string name))] (dkS q fr o a lf) (fun r st' => dkR fr ((Dk.mk q L o a lf).sync name).2 (.d (.sc (.int .i64 ((Dk.mk q L o a lf).sync name).1))) r st') := by
  rcases fr with _ | ⟨v, m, cs⟩
  · have hl0 : L = [] := hfr
    have hkm := trivial
    obtain ⟨GFsM, hFsM⟩ : ∃ F, F = FsM0 := ⟨_, rfl⟩
    obtain ⟨GFsK, hFsK⟩ : ∃ F, F = FsK0 := ⟨_, rfl⟩
    have hH : SoundK Try.prog [] := by subst hFsM hFsK; exact noK_ok
    have hB : SoundB Try.prog [kb_known GFsM, kb_power GFsK] := by subst hFsM hFsK; exact orB_ok okb_known (orB_ok okb_power noB_ok)
    refine FnD_cbv (T := fun _ => tabY [29, 30, 33, 34] [5]) (H := fun _ => []) (tabY_ok _ _) hH follows_mixed Try.func12 rfl Try.ntmps12 (by simp) fun A X W hA hX hW => ?_
    cbv
    repeat' first
      | (refine part (fun h => ?_) (fun h => ?_) <;> try cbv)
      | (refine And.intro ?_ ?_)
      | (with_reducible refine callB hX hB ?_) <;> cbv
      | ((with_reducible refine regionZ (T := fun _ => tabY [29, 30, 33, 34] []) (H := fun _ => []) (A := A) (tabY_ok _ _) noK_ok follows_mixed hA hX (by kernel_rfl) ?_) <;> cbv)
    all_goals subst hA hX hW hFsM hFsK
    all_goals clear hH hB
    all_goals try (show Region.lexB _ _ = true; kernel_rfl)
    all_goals try (show turnsB _ = true; kernel_rfl)
    all_goals try simp only [A0, FsM0, FsK0, decide_eq_true_eq, decide_eq_false_iff_not, Bool.not_eq_true', Bool.not_eq_false'] at *
    all_goals have hbad := @know_nil o name
    all_goals first
      | contradiction
      | assumption
      | (exfalso; exact hbad (by assumption))
      | (rw [← hl0]; exact hD)
      | (show okD 900 ⟨q, rowF [], o, a, lf⟩; rw [show rowF [] = L from hl0.symm]; exact hD)
      | (show okD 900 ⟨q, rowF cs, o, a, lf⟩; rw [hrow]; exact hD)
      | exact hD.l
      | (have h1 : knE cs o name = 0 := by assumption
         obtain ⟨k, f, e1, e2, e3, e4, e5, e6, e7, e8, e9, e10⟩ := know_cell hcs h1
         first
           | (rw [e1, hm]; exact (⟨by omega, by omega⟩ : (0 : Int) ≤ (k : Int) ∧ (k : Int) < (L.length : Int)))
           | (simp only [e1, Int.toNat_natCast, Nat.zero_add, e7]; exact ⟨rfl, by omega, e9⟩)
           | (simp only [e1, Int.toNat_natCast, Nat.zero_add]; omega)
           | (have h2 : powE a lf = 0 := by assumption
              have hs : (Dk.mk q L o a lf).sync name = (0, ⟨q, setKept L k, powO o a lf, a, powL a lf⟩) := by
                unfold Dk.sync Dk.know
                rw [if_pos (by rw [← hcs]; exact h1), if_pos h2, e2]
                rfl
              rw [hs]
              simp only [e1, Int.toNat_natCast, Nat.zero_add, e7]
              refine RetW.refl ⟨some (v, m, cellsF (setKept L k)), .inr ⟨by simp, by simp⟩, (by first | exact Nat.zero_le _ | (simp only [Fr.vr]; omega)), ⟨rfl, by rw [setKept_some e3, List.length_set]; exact hm⟩, by rw [h2], ?_⟩
              rw [hcs, set_kept L k f e3, setKept_some e3]
              rfl)
           | (have h2 : ¬ powE a lf = 0 := by assumption
              have hs : (Dk.mk q L o a lf).sync name = (powE a lf, ⟨q, L, powO o a lf, a, powL a lf⟩) := by
                unfold Dk.sync Dk.know
                rw [if_pos (by rw [← hcs]; exact h1), if_neg h2]
              rw [hs]
              exact RetW.refl ⟨some (v, m, cs), .inr ⟨by simp, by simp⟩, (by first | exact Nat.zero_le _ | (simp only [Fr.vr]; omega)), ⟨hcs, hm⟩, rfl, rfl⟩))
      | (have h1 : ¬ knE cs o name = 0 := by assumption
         have hs : (Dk.mk q L o a lf).sync name = (knE cs o name, ⟨q, L, o, a, lf⟩) := by
           unfold Dk.sync Dk.know
           rw [if_neg (by rw [← hcs]; exact h1), hcs]
         rw [hs]
         exact RetW.refl ⟨some (v, m, cs), .inr ⟨by simp, by simp⟩, (by first | exact Nat.zero_le _ | (simp only [Fr.vr]; omega)), ⟨hcs, hm⟩, rfl, rfl⟩)
      | (have hs : (Dk.mk q L o a lf).sync name = (knE [] o name, ⟨q, L, o, a, lf⟩) := by
           unfold Dk.sync Dk.know
           rw [if_neg (by rw [hl0]; exact hbad), hl0]
           rfl
         rw [hs]
         exact RetW.refl ⟨none, .inl ⟨rfl, .inl rfl⟩, (by first | exact Nat.zero_le _ | (simp only [Fr.vr]; omega)), hl0, rfl, rfl⟩)
      | fail
  · obtain ⟨hcs, hm⟩ := hfr
    have hisF : isF cs m := by rw [hcs, hm]; exact isF.mk (hD.okL (by decide))
    have hrow : rowF cs = L := by rw [hcs]; exact rowF_cells L
    have hpull : ∀ κ, pullL κ cs = cs := fun κ => by rw [hcs, pullL_eq]; exact pull_rows κ _
    obtain ⟨GFsM, hFsM⟩ : ∃ F, F = FsM0 := ⟨_, rfl⟩
    obtain ⟨GFsK, hFsK⟩ : ∃ F, F = FsK0 := ⟨_, rfl⟩
    have hH : SoundK Try.prog [] := by subst hFsM hFsK; exact noK_ok
    have hB : SoundB Try.prog [kb_known GFsM, kb_power GFsK] := by subst hFsM hFsK; exact orB_ok okb_known (orB_ok okb_power noB_ok)
    refine FnD_cbv (T := fun _ => tabY [29, 30, 33, 34] [5]) (H := fun _ => []) (tabY_ok _ _) hH follows_mixed Try.func12 rfl Try.ntmps12 (by simp) fun A X W hA hX hW => ?_
    cbv
    repeat' first
      | (refine part (fun h => ?_) (fun h => ?_) <;> try cbv)
      | (refine And.intro ?_ ?_)
      | (with_reducible refine callB hX hB ?_) <;> cbv
      | ((with_reducible refine regionZ (T := fun _ => tabY [29, 30, 33, 34] []) (H := fun _ => []) (A := A) (tabY_ok _ _) noK_ok follows_mixed hA hX (by kernel_rfl) ?_) <;> cbv)
    all_goals subst hA hX hW hFsM hFsK
    all_goals clear hH hB
    all_goals try (show Region.lexB _ _ = true; kernel_rfl)
    all_goals try (show turnsB _ = true; kernel_rfl)
    all_goals try simp only [A0, FsM0, FsK0, decide_eq_true_eq, decide_eq_false_iff_not, Bool.not_eq_true', Bool.not_eq_false'] at *
    all_goals have hbad := @know_nil o name
    all_goals first
      | contradiction
      | assumption
      | (exfalso; exact hbad (by assumption))
      | (rw [← hl0]; exact hD)
      | (show okD 900 ⟨q, rowF [], o, a, lf⟩; rw [show rowF [] = L from hl0.symm]; exact hD)
      | (show okD 900 ⟨q, rowF cs, o, a, lf⟩; rw [hrow]; exact hD)
      | exact hD.l
      | (have h1 : knE cs o name = 0 := by assumption
         obtain ⟨k, f, e1, e2, e3, e4, e5, e6, e7, e8, e9, e10⟩ := know_cell hcs h1
         first
           | (rw [e1, hm]; exact (⟨by omega, by omega⟩ : (0 : Int) ≤ (k : Int) ∧ (k : Int) < (L.length : Int)))
           | (simp only [e1, Int.toNat_natCast, Nat.zero_add, e7]; exact ⟨rfl, by omega, e9⟩)
           | (simp only [e1, Int.toNat_natCast, Nat.zero_add]; omega)
           | (have h2 : powE a lf = 0 := by assumption
              have hs : (Dk.mk q L o a lf).sync name = (0, ⟨q, setKept L k, powO o a lf, a, powL a lf⟩) := by
                unfold Dk.sync Dk.know
                rw [if_pos (by rw [← hcs]; exact h1), if_pos h2, e2]
                rfl
              rw [hs]
              simp only [e1, Int.toNat_natCast, Nat.zero_add, e7]
              refine RetW.refl ⟨some (v, m, cellsF (setKept L k)), .inr ⟨by simp, by simp⟩, (by first | exact Nat.zero_le _ | (simp only [Fr.vr]; omega)), ⟨rfl, by rw [setKept_some e3, List.length_set]; exact hm⟩, by rw [h2], ?_⟩
              rw [hcs, set_kept L k f e3, setKept_some e3]
              rfl)
           | (have h2 : ¬ powE a lf = 0 := by assumption
              have hs : (Dk.mk q L o a lf).sync name = (powE a lf, ⟨q, L, powO o a lf, a, powL a lf⟩) := by
                unfold Dk.sync Dk.know
                rw [if_pos (by rw [← hcs]; exact h1), if_neg h2]
              rw [hs]
              exact RetW.refl ⟨some (v, m, cs), .inr ⟨by simp, by simp⟩, (by first | exact Nat.zero_le _ | (simp only [Fr.vr]; omega)), ⟨hcs, hm⟩, rfl, rfl⟩))
      | (have h1 : ¬ knE cs o name = 0 := by assumption
         have hs : (Dk.mk q L o a lf).sync name = (knE cs o name, ⟨q, L, o, a, lf⟩) := by
           unfold Dk.sync Dk.know
           rw [if_neg (by rw [← hcs]; exact h1), hcs]
         rw [hs]
         exact RetW.refl ⟨some (v, m, cs), .inr ⟨by simp, by simp⟩, (by first | exact Nat.zero_le _ | (simp only [Fr.vr]; omega)), ⟨hcs, hm⟩, rfl, rfl⟩)
      | (have hs : (Dk.mk q L o a lf).sync name = (knE [] o name, ⟨q, L, o, a, lf⟩) := by
           unfold Dk.sync Dk.know
           rw [if_neg (by rw [hl0]; exact hbad), hl0]
           rfl
         rw [hs]
         exact RetW.refl ⟨none, .inl ⟨rfl, .inl rfl⟩, (by first | exact Nat.zero_le _ | (simp only [Fr.vr]; omega)), hl0, rfl, rfl⟩)
      | fail
end Go.Proofs.Ytmjmbfcfnhnpmaa
namespace Go.Proofs.Ytmjmbfcfnhnpmaa
open Go.RowKit
set_option linter.all false
set_option maxHeartbeats 4000000
theorem bumpL_closed (b v w : Nat) : ∀ ds : List DV, closedL 0 ds = true → bumpL b v w ds = ds := by
  have key : ∀ d : DV, closedD 0 d = true → bumpD b v w d = d := by
    intro d
    refine DV.rec (motive_1 := fun d => closedD 0 d = true → bumpD b v w d = d) (motive_2 := fun ds => closedL 0 ds = true → bumpL b v w ds = ds) ?_ ?_ ?_ ?_ ?_ ?_ ?_ ?_ ?_ ?_ d
    · intro _; rfl
    · intro _ _; rfl
    · intro cs ih h; simp only [bumpD, ih h]
    · intro cs ih h; simp only [bumpD, ih h]
    · intro b v o h; simp [closedD] at h
    · intro _ _; rfl
    · intro a b c d e h; simp [closedD] at h
    · intro f cs ih h; simp only [bumpD, ih h]
    · intro _; rfl
    · intro d ds h1 h2 h
      simp only [closedL, Bool.and_eq_true] at h
      simp only [bumpL, h1 h.1, h2 h.2]
  intro ds
  induction ds with
  | nil => intro _; rfl
  | cons d ds ih =>
    intro h
    simp only [closedL, Bool.and_eq_true] at h
    simp only [bumpL, key d h.1, ih h.2]
theorem pullL_closed0 (κ : List Nat) : ∀ ds : List DV, closedL 0 ds = true → pullL κ ds = ds := by
  intro ds
  induction ds with
  | nil => intro _; rfl
  | cons d ds ih =>
    intro h
    simp only [closedL, Bool.and_eq_true] at h
    simp only [pullL, RetW.drop.pullD_pure κ d h.1, ih h.2]
theorem closedL_append' (a b : List DV) : closedL 0 (a ++ b) = (closedL 0 a && closedL 0 b) := by
  induction a with
  | nil => simp [closedL]
  | cons d a ih => simp [closedL, ih, Bool.and_assoc]
theorem closedL_take (n : Nat) {l : List DV} (h : closedL 0 l = true) : closedL 0 (l.take n) = true := by
  have e := closedL_append' (l.take n) (l.drop n)
  rw [List.take_append_drop, h] at e
  simp only [Bool.true_eq, Bool.and_eq_true] at e
  exact e.1
theorem closedL_drop (n : Nat) {l : List DV} (h : closedL 0 l = true) : closedL 0 (l.drop n) = true := by
  have e := closedL_append' (l.take n) (l.drop n)
  rw [List.take_append_drop, h] at e
  simp only [Bool.true_eq, Bool.and_eq_true] at e
  exact e.2
theorem insR_closed {cs ds : List DV} (h : closedL 0 cs = true) (h2 : closedL 0 ds = true) (i : Int) : closedL 0 (insR cs ds i) = true := by
  simp only [insR, closedL_append', closedL_take _ h, closedL_drop _ h, h2, Bool.and_self]
theorem delR_closed {cs : List DV} (h : closedL 0 cs = true) (i : Int) : closedL 0 (delR cs i) = true := by
  simp only [delR, closedL_append', closedL_take _ h, closedL_drop _ h, Bool.and_self]
theorem box_ren (φ : Nat → Nat) (bx : Box) (h : closedL 0 bx.cells = true) : Box.ren φ bx = bx := by
  unfold Box.ren
  have := renL_pure φ bx.cells h
  rw [renL_eq] at this
  rw [this]
abbrev INSF : Nat := 32
abbrev DELF : Nat := 36
/-- slices.Insert of one file: the row stands where it stood. -/
theorem w_insF (cs ds : List DV) (n k : Nat) (i : Int) (v w : Nat) (hcs : cs.length = n * 3) (hds : ds.length = 3) (hi : i = k) (h1 : k ≤ n) (hn : n ≤ 1000000) (c1 : closedL 0 cs = true) (c2 : closedL 0 ds = true) :
    FnD Try.prog INSF [.view 3 0 v 0 n, .d (.sc (.int .i64 i)), .view 3 1 w 0 1] [fB cs v, ⟨65, ds, false, w, true⟩]
      (fun r st' => r = .view 3 0 (v + 1) 0 (n + 1) ∧ st' = [fB (insR cs ds i) (v + 1), ⟨65, ds, false, w, true⟩]) := by
  have c3 := insR_closed c1 c2 i
  refine FnD.ret ((w_ins cs ds n k i v w hcs hds hi h1 hn).mono ?_)
  rintro r st (⟨rfl, rfl⟩ | ⟨st0, rfl, rfl⟩)
  · exact RetW.refl ⟨rfl, rfl⟩
  · refine ret_bump2 2 (v + 1) _ rfl rfl (Nat.zero_le _) ?_
    refine ret_keep2 [2, 1] rfl ⟨⟨trivial, .inr ⟨_, _, rfl, rfl, rfl, ?_⟩⟩, .inl rfl⟩ ?_
    · show v < v + 1
      omega
    · refine RetW.refl ⟨?_, ?_⟩
      · rfl
      · simp [bumpSt, keepSt, pullBox, bumpL_closed _ _ _ _ c3, bumpL_closed _ _ _ _ c2, pullL_closed0 _ _ c3, pullL_closed0 _ _ c2]
/-- A contract used where the boxes' cells may hold nothing. -/
theorem FnD.upst {P : Program} {f : FuncId} {args : List DV} {st st' : Store} {K : DV → Store → Prop} (h : UpSt st st') (hf : FnD P f args st' K) : FnD P f args st K := by
  intro E vs hc hst hr
  subst hst
  have hv : ∀ (b : Nat) (bx : Box), E.st[b]? = some bx → ∃ bx' : Box, st'[b]? = some bx' ∧ bx'.ver = bx.ver := fun b bx hb => by
    obtain ⟨bx', h1, _, _, h2, _⟩ := h.get b bx hb
    exact ⟨bx', h1, h2⟩
  let E' : Env := ⟨E.w, E.S, E.σ, st'⟩
  have hc' : Conc E' := by
    refine ⟨hc.len.trans h.len.symm, fun b bx' g z h1 h2 hl => ?_, hc.inj, hc.old, hc.lt⟩
    obtain ⟨bx, g1, g2, g3, g4, g5, g6⟩ := h.back b bx' h1
    obtain ⟨cur, c1, c2, c3, c4, c5, c6, c7, c8⟩ := hc.box b bx g z g1 h2 (by rw [← g5]; exact hl)
    refine ⟨cur, by rw [g2]; exact c1, c2, by rw [g6.len]; exact c3, fun e => by rw [g6.len]; exact c4 (by rw [← g3]; exact e), c5, c6, fun j d hj => ?_, c8⟩
    obtain ⟨c, k1, k2⟩ := g6.get j d hj
    obtain ⟨u, u1, u2, u3⟩ := c7 j c k1
    exact ⟨u, u1, u2, Rep.stv (E := E) (E' := E') rfl rfl rfl hv d u (UpD.rep k2 u3)⟩
  have hx : Ext E E' := by
    refine ⟨Nat.le_refl _, rfl, rfl, rfl, fun _ h => h, fun _ h => .inl h, fun _ _ _ => rfl, fun b bx gz h1 h2 => ?_, fun b gz h1 h2 => by simp only [E'] at h2; rw [h1] at h2; cases h2⟩
    obtain ⟨bx', g1, g2, g3, g4, g5, g6⟩ := h.get b bx h1
    exact ⟨bx', gz, g1, h2, by rw [g4]; exact Nat.le_refl _, fun _ => rfl, fun hd => by rw [g5]; exact hd, .inl rfl⟩
  refine (hf E' vs hc' rfl (Reps.stv (E := E) (E' := E') rfl rfl rfl hv _ _ hr)).mono ?_
  rintro e w' ⟨v, E2, r, k1, k2, k3, k4, k5, k6⟩
  exact ⟨v, E2, r, k1, k2, k3, k4, Ext.trans hc.len hc'.len hx k5, k6⟩
theorem UpSt.set : ∀ {st : Store} {c : Nat} {bx : Box} {ds : List DV}, st[c]? = some bx → UpL bx.cells ds → UpSt st (st.set c ⟨bx.ty, ds, bx.ext, bx.ver, bx.live⟩)
  | [], c, bx, ds, h, _ => by simp at h
  | b0 :: st, 0, bx, ds, h, hu => by
      simp at h
      subst h
      exact ⟨_, st, rfl, ⟨rfl, rfl, rfl, rfl, hu⟩, UpSt.refl st⟩
  | b0 :: st, c + 1, bx, ds, h, hu => by
      simp at h
      exact ⟨b0, _, rfl, ⟨rfl, rfl, rfl, rfl, UpL.refl' _⟩, UpSt.set h hu⟩
/-- Nothing as bytes. -/
def upC : DV → DV
  | .d (.sc (.slice none 0 0)) => .d (.slc 1 [])
  | d => d
theorem upC_up (d : DV) (h : closedD 0 d = true) : UpL [d] [upC d] := by
  unfold upC
  split
  · exact UpL.nil UpL.done
  · exact UpL.keep UpL.done
theorem okIns_up {nm : ByteArray} {kk : Int} {fl : DV} (h : closedD 0 fl = true) : UpL [.d (.sc (.string nm)), fl, .d (.sc (.int .i64 kk))] [.d (.sc (.string nm)), upC fl, .d (.sc (.int .i64 kk))] := by
  obtain ⟨b, cs, e, h1, h2⟩ := upC_up fl h
  simp only [List.cons.injEq] at e
  obtain ⟨rfl, rfl⟩ := e
  exact UpL.keep ⟨_, _, rfl, h1, UpL.keep UpL.done⟩
def okIns (cs ds : List DV) (n : Nat) (i : Int) : Prop := cs.length = n * 3 ∧ ds.length = 3 ∧ 0 ≤ i ∧ i ≤ n ∧ n ≤ 1000000 ∧ closedL 0 cs = true ∧ closedL 0 ds = true
def okInsN (ds : List DV) (i : Int) : Prop := ds.length = 3 ∧ i = 0 ∧ closedL 0 ds = true
def okDel (cs : List DV) (n : Nat) (i j : Int) : Prop := cs.length = n * 3 ∧ 0 ≤ i ∧ i < n ∧ j = i + 1 ∧ n ≤ 1000000 ∧ closedL 0 cs = true
structure FsI where
  ins : List DV → List DV → Int → List DV
  del : List DV → Int → List DV
  nx : Nat → Nat
  sn : Nat → Nat
  pn : Nat → Nat
  okIns : List DV → List DV → Nat → Int → Prop
  okInsN : List DV → Int → Prop
  okDel : List DV → Nat → Int → Int → Prop
  same : Nat → Nat → Prop
def FsI0 : FsI where
  ins := insR
  del := delR
  nx := (· + 1)
  sn := (· + 1)
  pn := (· - 1)
  okIns := okIns
  okInsN := okInsN
  okDel := okDel
  same := (· = ·)
def kb_ins (F : FsI) : FuncId × (List DV → Store → SV) := (32, fun args st => match args with
  | [.view sz b v o n, .d (.sc (.int .i64 i)), .view sz2 c w o2 k] => (match st[b]?, st[c]? with
    | some ⟨t, cs, true, v2, true⟩, some ⟨t2, [.d (.sc (.string nm)), .d fl, .d (.sc (.int .i64 kk))], false, w2, true⟩ => (bif (sz == 3) && (o == 0) && (sz2 == 3) && (o2 == 0) && (k == 1) && (t == 65) && (t2 == 65) && (w == w2) && !(b == c) then some ([F.same v2 v, F.okIns cs [.d (.sc (.string nm)), upC (.d fl), .d (.sc (.int .i64 kk))] n i], .view 3 b (F.nx v) 0 (F.sn n), (st.set b ⟨65, F.ins cs [.d (.sc (.string nm)), upC (.d fl), .d (.sc (.int .i64 kk))] i, true, F.nx v, true⟩).set c ⟨65, [.d (.sc (.string nm)), upC (.d fl), .d (.sc (.int .i64 kk))], false, w, true⟩) else none)
    | _, _ => none)
  | [.d (.sc (.slice none 0 0)), .d (.sc (.int .i64 i)), .view sz2 c w o2 k] => (match st[c]? with
    | some ⟨t2, [.d (.sc (.string nm)), .d fl, .d (.sc (.int .i64 kk))], false, w2, true⟩ => (bif (sz2 == 3) && (o2 == 0) && (k == 1) && (t2 == 65) && (w == w2) then some ([F.okInsN [.d (.sc (.string nm)), upC (.d fl), .d (.sc (.int .i64 kk))] i], .view 3 st.length 0 0 1, st.set c ⟨65, [.d (.sc (.string nm)), upC (.d fl), .d (.sc (.int .i64 kk))], false, w, true⟩ ++ [⟨65, [.d (.sc (.string nm)), upC (.d fl), .d (.sc (.int .i64 kk))], true, 0, true⟩]) else none)
    | _ => none)
  | _ => none)
theorem okb_ins (args : List DV) (st : Store) (cs : List Prop) (r : DV) (st' : Store) (h : (kb_ins FsI0).2 args st = some (cs, r, st')) (hc : allP cs True) (K : DV → Store → Prop) (hk : K r st') : FnD Try.prog 32 args st K := by
  unfold kb_ins at h
  simp only at h
  split at h
  · split at h
    · rename_i hb hb2
      simp only [cond_eq_ite, Bool.and_eq_true, beq_iff_eq, Option.ite_none_right_eq_some, Bool.not_eq_true', beq_eq_false_iff_ne] at h
      obtain ⟨⟨⟨⟨⟨⟨⟨⟨⟨rfl, rfl⟩, rfl⟩, rfl⟩, rfl⟩, rfl⟩, rfl⟩, rfl⟩, hbc⟩, h⟩ := h
      cases h
      have hc1 : _ = _ := hc.1
      subst hc1
      obtain ⟨h1, h2, h3, h4, h5, h6, h7⟩ : okIns _ _ _ _ := hc.2.1
      rename_i b n i c w x1 x2 cs2 v2 nm fl kk
      obtain ⟨ds2, hds⟩ : ∃ ds, ds = [DV.d (.sc (.string nm)), upC (.d fl), .d (.sc (.int .i64 kk))] := ⟨_, rfl⟩
      rw [← hds] at h2 h7 hk
      have hup : UpL [DV.d (.sc (.string nm)), .d fl, .d (.sc (.int .i64 kk))] ds2 := by rw [hds]; exact okIns_up rfl
      have hltc0 := (List.getElem?_eq_some_iff.1 hb2).1
      refine FnD.upst (UpSt.set hb2 hup) ?_
      obtain ⟨st2, hst2⟩ : ∃ s, s = st.set c ⟨65, ds2, false, w, true⟩ := ⟨_, rfl⟩
      have hb' : st2[b]? = some (fB cs2 v2) := by rw [hst2, List.getElem?_set, if_neg (Ne.symm hbc)]; exact hb
      have hb2' : st2[c]? = some ⟨65, ds2, false, w, true⟩ := by rw [hst2]; simp [hltc0]
      show FnD _ _ _ (st.set c ⟨65, ds2, false, w, true⟩) K
      have hk' : K (.view 3 b (v2 + 1) 0 (n + 1)) ((st2.set b (fB (insR cs2 ds2 i) (v2 + 1))).set c ⟨65, ds2, false, w, true⟩) := by
        have e : (st2.set b (fB (insR cs2 ds2 i) (v2 + 1))).set c ⟨65, ds2, false, w, true⟩ = (st.set b (fB (insR cs2 ds2 i) (v2 + 1))).set c ⟨65, ds2, false, w, true⟩ := by
          rw [hst2]
          apply List.ext_getElem?
          intro k
          simp only [List.getElem?_set, List.length_set]
          by_cases hk : c = k <;> by_cases hk2 : b = k <;> simp [hk, hk2]
        rw [e]
        exact hk
      rw [← hst2]
      have hlt := (List.getElem?_eq_some_iff.1 hb').1
      have hltc := (List.getElem?_eq_some_iff.1 hb2').1
      have hw := w_insF cs2 ds2 n i.toNat i v2 w h1 h2 (Int.toNat_of_nonneg h3).symm (by omega) h5 h6 h7
      refine FnD.at hw [b, c] (by simp [hlt, hltc, hbc, closedL, closedD]) ?_ (by simp [renL, renD, place]) ?_
      · intro k r bx0 hk hs
        rcases k with _ | _ | k
        · simp at hk hs
          subst hk; subst hs
          exact ⟨by rw [box_ren _ _ h6]; exact hb', closedL_mono (Nat.zero_le _) _ h6⟩
        · simp at hk hs
          subst hk; subst hs
          exact ⟨by rw [box_ren _ _ h7]; exact hb2', closedL_mono (Nat.zero_le _) _ h7⟩
        · simp at hk
      · rintro r0 stc ⟨rfl, rfl⟩ _
        rw [List.map_cons, List.map_cons, List.map_nil, box_ren _ _ (insR_closed h6 h7 _), box_ren _ _ h7, merge_two hlt hltc hbc]
        exact hk'
    · cases h
  · split at h
    · rename_i hb2
      simp only [cond_eq_ite, Bool.and_eq_true, beq_iff_eq, Option.ite_none_right_eq_some] at h
      obtain ⟨⟨⟨⟨⟨rfl, rfl⟩, rfl⟩, rfl⟩, rfl⟩, h⟩ := h
      cases h
      obtain ⟨h1, h2, h3⟩ : okInsN _ _ := hc.1
      rename_i i c w x1 nm fl kk
      obtain ⟨ds2, hds⟩ : ∃ ds, ds = [DV.d (.sc (.string nm)), upC (.d fl), .d (.sc (.int .i64 kk))] := ⟨_, rfl⟩
      rw [← hds] at h1 h3 hk
      have hup : UpL [DV.d (.sc (.string nm)), .d fl, .d (.sc (.int .i64 kk))] ds2 := by rw [hds]; exact okIns_up rfl
      have hltc0 := (List.getElem?_eq_some_iff.1 hb2).1
      refine FnD.upst (UpSt.set hb2 hup) ?_
      obtain ⟨st2, hst2⟩ : ∃ s, s = st.set c ⟨65, ds2, false, w, true⟩ := ⟨_, rfl⟩
      have hb2' : st2[c]? = some ⟨65, ds2, false, w, true⟩ := by rw [hst2]; simp [hltc0]
      show FnD _ _ _ (st.set c ⟨65, ds2, false, w, true⟩) K
      have hk' : K (.view 3 st2.length 0 0 1) (st2 ++ [⟨65, ds2, true, 0, true⟩]) := by
        rw [hst2, List.length_set]
        exact hk
      rw [← hst2]
      have hltc := (List.getElem?_eq_some_iff.1 hb2').1
      have hw := w_insertN ds2 w i h1 h2
      refine FnD.at hw [c] (by simp [hltc, closedL, closedD, nilS]) ?_ (by simp [renL, renD, place, nilS]) ?_
      · intro k r bx0 hk hs
        rcases k with _ | k
        · simp at hk hs
          subst hk; subst hs
          exact ⟨by rw [box_ren _ _ h3]; exact hb2', closedL_mono (Nat.zero_le _) _ h3⟩
        · simp at hk
      · rintro r0 stc ⟨rfl, rfl⟩ _
        rw [List.map_cons, List.map_cons, List.map_nil, box_ren _ _ h3, box_ren _ _ h3, merge_one hltc]
        have e : st2.set c ⟨65, ds2, false, w, true⟩ = st2 := by
          apply List.ext_getElem?
          intro k
          simp only [List.getElem?_set]
          by_cases hk : c = k
          · subst hk
            simp [hltc]
            exact ((List.getElem?_eq_some_iff.1 hb2').2).symm
          · simp [hk]
        rw [e]
        simpa [renD, place] using hk'
    · cases h
  · cases h
theorem w_delF (cs : List DV) (n k : Nat) (i j : Int) (v : Nat) (hcs : cs.length = n * 3) (hi : i = k) (hj : j = (k + 1 : Nat)) (h1 : k < n) (hn : n ≤ 4194304) :
    FnD Try.prog DELF [.view 3 0 v 0 n, .d (.sc (.int .i64 i)), .d (.sc (.int .i64 j))] [fB cs v] (fun r st' => r = .view 3 0 (v + 1) 0 (n - 1) ∧ st' = [fB (delR cs i) (v + 1)]) := by
  subst hi
  rcases Nat.lt_or_ge (k + 1) n with h | h
  · exact w_delete cs n k _ j v hcs rfl hj h hn
  · exact w_deleteE cs n k _ j v hcs rfl hj (by omega) hn
def kb_del (F : FsI) : FuncId × (List DV → Store → SV) := (36, fun args st => match args with
  | [.view sz b v o n, .d (.sc (.int .i64 i)), .d (.sc (.int .i64 j))] => (match st[b]? with
    | some ⟨t, cs, true, v2, true⟩ => (bif (sz == 3) && (o == 0) && (t == 65) then some ([F.same v2 v, F.okDel cs n i j], .view 3 b (F.nx v) 0 (F.pn n), st.set b ⟨65, F.del cs i, true, F.nx v, true⟩) else none)
    | _ => none)
  | _ => none)
theorem okb_del (args : List DV) (st : Store) (cs : List Prop) (r : DV) (st' : Store) (h : (kb_del FsI0).2 args st = some (cs, r, st')) (hc : allP cs True) (K : DV → Store → Prop) (hk : K r st') : FnD Try.prog 36 args st K := by
  unfold kb_del at h
  simp only at h
  split at h
  · split at h
    · rename_i hb
      simp only [cond_eq_ite, Bool.and_eq_true, beq_iff_eq, Option.ite_none_right_eq_some] at h
      obtain ⟨⟨⟨rfl, rfl⟩, rfl⟩, h⟩ := h
      cases h
      have hc1 : _ = _ := hc.1
      subst hc1
      obtain ⟨h1, h2, h3, h4, h5, h6⟩ : okDel _ _ _ _ := hc.2.1
      have hlt := (List.getElem?_eq_some_iff.1 hb).1
      rename_i b n i j x1 cs2 v2
      have hw := w_delF cs2 n i.toNat i j v2 h1 (Int.toNat_of_nonneg h2).symm (by rw [h4]; omega) (by omega) (Nat.le_trans h5 (by decide))
      refine FnD.at hw [b] (by simp [hlt, closedL, closedD]) ?_ (by simp [renL, renD, place]) ?_
      · intro k r bx0 hk hs
        rcases k with _ | k
        · simp at hk hs
          subst hk; subst hs
          exact ⟨by rw [box_ren _ _ h6]; exact hb, closedL_mono (Nat.zero_le _) _ h6⟩
        · simp at hk
      · rintro r0 stc ⟨rfl, rfl⟩ _
        rw [List.map_cons, List.map_nil, box_ren _ _ (delR_closed h6 _), merge_one hlt, List.append_nil]
        exact hk
    · cases h
  · cases h
theorem ret_up2 {k : Nat} {R : DV → Store → Prop} {d d' : DV} {st : Store} (h : UpD d d') (hr : RetW k R d' st) : RetW k R d st := by
  obtain ⟨d2, st2, h1, h2⟩ := hr
  exact ⟨d2, st2, TellsV.trans (TellsV.up k st h) h1, h2⟩
def readF (L : List FileM) (name : ByteArray) : List (List PD) := match L[(findF name L 0).1.toNat]? with
  | some f => f.data
  | none => []
/-- The bytes of a file, if there is such a one. -/
def Dk.reads (D : Dk) (name : ByteArray) : List (List PD) := if (findF name D.L 0).2 = true then readF D.L name else []
set_option maxRecDepth 100000 in
theorem w_read (q : Int) (fr : Fr) (o a : Bool) (lf : Int) (L : List FileM) (name : ByteArray) (hfr : fr.is L) (hD : okD 900 ⟨q, L, o, a, lf⟩) : FnD Try.prog 14 [.ref 0 0 0, .d (.sc (.string name))] (dkS q fr o a lf) (fun r st' => r = .tup [.d (.slc 1 ((Dk.mk q L o a lf).reads name)), .d (.sc (.bool (findF name L 0).2))] ∧ st' = dkS q fr o a lf) := by
  rcases fr with _ | ⟨v, m, cs⟩
  · have hl0 : L = [] := hfr
    have hkm := trivial
    obtain ⟨GFsB, hFsB⟩ : ∃ F, F = FsB0 := ⟨_, rfl⟩
    obtain ⟨GFsK, hFsK⟩ : ∃ F, F = FsK0 := ⟨_, rfl⟩
    have hH : SoundK Try.prog [kn_clone GFsB] := by subst hFsB hFsK; exact orK_ok ok_clone noK_ok
    have hB : SoundB Try.prog [kb_find GFsK] := by subst hFsB hFsK; exact orB_ok okb_find noB_ok
    refine FnD_cbv (T := fun _ => tabY [21, 22] []) (H := fun _ => [kn_clone GFsB]) (tabY_ok _ _) hH follows_mixed Try.func14 rfl Try.ntmps14 (by simp) fun A X W hA hX hW => ?_
    cbv
    repeat' first
      | (refine part (fun h => ?_) (fun h => ?_) <;> try cbv)
      | (refine And.intro ?_ ?_)
      | (with_reducible refine callB hX hB ?_) <;> cbv
    all_goals subst hA hX hW hFsB hFsK
    all_goals clear hH hB
    all_goals try (show Region.lexB _ _ = true; kernel_rfl)
    all_goals try (show turnsB _ = true; kernel_rfl)
    all_goals try simp only [A0, FsB0, FsK0, decide_eq_true_eq, decide_eq_false_iff_not, Bool.not_eq_true', Bool.not_eq_false'] at *
    all_goals have e0 : findX [] name = (0, false) := rfl
    all_goals try (rw [e0] at h; contradiction)
    all_goals try (have e1 : findX cs name = findF name L 0 := by unfold findX; rw [hrow]
                   rw [e1] at h)
    all_goals first
      | assumption
      | (have e2 : (Dk.mk q L o a lf).reads name = [] ∧ (findF name L 0).2 = false := by
           unfold Dk.reads
           rw [hl0]
           exact ⟨rfl, rfl⟩
         rw [e2.1, e2.2]
         exact ret_up2 (d' := .tup [.d (.slc 1 []), .d (.sc (.bool false))]) ⟨_, rfl, UpL.nil (UpL.keep UpL.done)⟩ (RetW.refl ⟨rfl, rfl⟩))
      | (have h1 : (findF name L 0).2 = false := by assumption
         have e2 : (Dk.mk q L o a lf).reads name = [] := by
           unfold Dk.reads
           rw [if_neg (by rw [h1]; decide)]
         rw [e2, h1]
         exact ret_up2 (d' := .tup [.d (.slc 1 []), .d (.sc (.bool false))]) ⟨_, rfl, UpL.nil (UpL.keep UpL.done)⟩ (RetW.refl ⟨rfl, rfl⟩))
      | (have h1 : (findF name L 0).2 = true := by assumption
         have e1 : findX cs name = findF name L 0 := by unfold findX; rw [hrow]
         have hr := findF_range name L 0
         obtain ⟨k, hk⟩ : ∃ k : Nat, (findF name L 0).1 = (k : Int) := ⟨(findF name L 0).1.toNat, by omega⟩
         obtain ⟨f, h4, h5⟩ := Dk.at_get (D := ⟨q, L, o, a, lf⟩) h1
         simp only [Dk.at, hk, Int.toNat_natCast] at h4
         have hl := (List.getElem?_eq_some_iff.1 h4).1
         have ef := (List.getElem?_eq_some_iff.1 h4).2
         obtain ⟨g0, g1, g2, g3, g4⟩ := file_cell hcs k hl
         rw [ef] at g1
         have hfb : isB f.data := (hD.fs f (by rw [← ef]; exact List.getElem_mem hl)).1
         simp only [e1, hk, Int.toNat_natCast, Nat.zero_add, g1]
         first
           | (rw [hm]; exact (⟨by omega, by omega⟩ : (0 : Int) ≤ (k : Int) ∧ (k : Int) < (L.length : Int)))
           | exact hfb
           | (refine ⟨rfl, by omega, ?_⟩
              obtain ⟨hn, e⟩ := List.getElem?_eq_some_iff.1 g1
              rw [List.drop_eq_getElem_cons hn, e]
              rfl)
           | (have e2 : (Dk.mk q L o a lf).reads name = f.data := by
                unfold Dk.reads readF
                rw [if_pos h1, hk]
                simp only [Int.toNat_natCast, h4]
              rw [e2, h1]
              exact RetW.refl ⟨rfl, rfl⟩))
      | fail
  · obtain ⟨hcs, hm⟩ := hfr
    have hisF : isF cs m := by rw [hcs, hm]; exact isF.mk (hD.okL (by decide))
    have hrow : rowF cs = L := by rw [hcs]; exact rowF_cells L
    have hpull : ∀ κ, pullL κ cs = cs := fun κ => by rw [hcs, pullL_eq]; exact pull_rows κ _
    obtain ⟨GFsB, hFsB⟩ : ∃ F, F = FsB0 := ⟨_, rfl⟩
    obtain ⟨GFsK, hFsK⟩ : ∃ F, F = FsK0 := ⟨_, rfl⟩
    have hH : SoundK Try.prog [kn_clone GFsB] := by subst hFsB hFsK; exact orK_ok ok_clone noK_ok
    have hB : SoundB Try.prog [kb_find GFsK] := by subst hFsB hFsK; exact orB_ok okb_find noB_ok
    refine FnD_cbv (T := fun _ => tabY [21, 22] []) (H := fun _ => [kn_clone GFsB]) (tabY_ok _ _) hH follows_mixed Try.func14 rfl Try.ntmps14 (by simp) fun A X W hA hX hW => ?_
    cbv
    repeat' first
      | (refine part (fun h => ?_) (fun h => ?_) <;> try cbv)
      | (refine And.intro ?_ ?_)
      | (with_reducible refine callB hX hB ?_) <;> cbv
    all_goals subst hA hX hW hFsB hFsK
    all_goals clear hH hB
    all_goals try (show Region.lexB _ _ = true; kernel_rfl)
    all_goals try (show turnsB _ = true; kernel_rfl)
    all_goals try simp only [A0, FsB0, FsK0, decide_eq_true_eq, decide_eq_false_iff_not, Bool.not_eq_true', Bool.not_eq_false'] at *
    all_goals have e0 : findX [] name = (0, false) := rfl
    all_goals try (rw [e0] at h; contradiction)
    all_goals try (have e1 : findX cs name = findF name L 0 := by unfold findX; rw [hrow]
                   rw [e1] at h)
    all_goals first
      | assumption
      | (have e2 : (Dk.mk q L o a lf).reads name = [] ∧ (findF name L 0).2 = false := by
           unfold Dk.reads
           rw [hl0]
           exact ⟨rfl, rfl⟩
         rw [e2.1, e2.2]
         exact ret_up2 (d' := .tup [.d (.slc 1 []), .d (.sc (.bool false))]) ⟨_, rfl, UpL.nil (UpL.keep UpL.done)⟩ (RetW.refl ⟨rfl, rfl⟩))
      | (have h1 : (findF name L 0).2 = false := by assumption
         have e2 : (Dk.mk q L o a lf).reads name = [] := by
           unfold Dk.reads
           rw [if_neg (by rw [h1]; decide)]
         rw [e2, h1]
         exact ret_up2 (d' := .tup [.d (.slc 1 []), .d (.sc (.bool false))]) ⟨_, rfl, UpL.nil (UpL.keep UpL.done)⟩ (RetW.refl ⟨rfl, rfl⟩))
      | (have h1 : (findF name L 0).2 = true := by assumption
         have e1 : findX cs name = findF name L 0 := by unfold findX; rw [hrow]
         have hr := findF_range name L 0
         obtain ⟨k, hk⟩ : ∃ k : Nat, (findF name L 0).1 = (k : Int) := ⟨(findF name L 0).1.toNat, by omega⟩
         obtain ⟨f, h4, h5⟩ := Dk.at_get (D := ⟨q, L, o, a, lf⟩) h1
         simp only [Dk.at, hk, Int.toNat_natCast] at h4
         have hl := (List.getElem?_eq_some_iff.1 h4).1
         have ef := (List.getElem?_eq_some_iff.1 h4).2
         obtain ⟨g0, g1, g2, g3, g4⟩ := file_cell hcs k hl
         rw [ef] at g1
         have hfb : isB f.data := (hD.fs f (by rw [← ef]; exact List.getElem_mem hl)).1
         simp only [e1, hk, Int.toNat_natCast, Nat.zero_add, g1]
         first
           | (rw [hm]; exact (⟨by omega, by omega⟩ : (0 : Int) ≤ (k : Int) ∧ (k : Int) < (L.length : Int)))
           | exact hfb
           | (refine ⟨rfl, by omega, ?_⟩
              obtain ⟨hn, e⟩ := List.getElem?_eq_some_iff.1 g1
              rw [List.drop_eq_getElem_cons hn, e]
              rfl)
           | (have e2 : (Dk.mk q L o a lf).reads name = f.data := by
                unfold Dk.reads readF
                rw [if_pos h1, hk]
                simp only [Int.toNat_natCast, h4]
              rw [e2, h1]
              exact RetW.refl ⟨rfl, rfl⟩))
      | fail
end Go.Proofs.Ytmjmbfcfnhnpmaa
