/- slices.Insert of one pair, slices.Delete of one: what they do. No condition. -/
import Derived.Test.YtbceikkjogbgeaaAm35
import Derived.Test.YtbceikkjogbgeaaTy
namespace Go.Proofs.Ytbceikkjogbgeaa
open Go.RowKit
set_option linter.all false
theorem exV {P : Program} {N : Nat} {X : Cps} (hX : X = X0 P N) {f : FuncId} (hf : OvlF P f) {s b v o n s' b' v' o' n' : Nat} {bx bx' : Box} {st : Store} {K : DV → Store → Prop} (hb : st[b]? = some bx) (hb' : st[b']? = some bx') (h1 : v = bx.ver) (h2 : v' = bx'.ver) (h3 : bx.live = true) (h4 : bx'.live = true) (h5 : b ≠ b')
    (h6 : bx'.cells ≠ []) (hk : K (boolD false) st) : X.ex f [.view s b v o n, .view s' b' v' o' n'] st K := by
  subst hX
  refine ⟨hf, ?_⟩
  simp only [hb, hb']
  exact ⟨h1, h2, h3, h4, h5, h6, hk⟩

theorem ovl_pair : OvlF Try.prog 31 := ⟨Try.f31, 22, 4, 29, Try.func31, by kernel_rfl, by kernel_rfl, by kernel_rfl, by kernel_rfl, by kernel_rfl, by kernel_rfl⟩
def insR (cs ds : List DV) (i : Int) : List DV := cs.take (i.toNat * 3) ++ ds ++ cs.drop (i.toNat * 3)
theorem flat3 (z : List DV) (hz : z.length = 3) (m : Nat) : (List.replicate m z).flatten.length = m * 3 := by
  rw [List.length_flatten]; simp [hz]
theorem ins_grow (cs ds z : List DV) (n k x : Nat) (hcs : cs.length = n * 3) (hds : ds.length = 3) (hz : z.length = 3) (hk : k < n) :
    splice (splice ((cs ++ List.replicate x DV.any).take (k * 3) ++ (List.replicate (n + 1 - k) z).flatten) (k * 3) ds) ((k + 1) * 3) (((cs ++ List.replicate x DV.any).drop (k * 3)).take ((n - k) * 3)) = insR cs ds (k : Int) := by
  have h1 : ((cs ++ List.replicate x DV.any).take (k * 3) ++ (List.replicate (n + 1 - k) z).flatten).length = (n + 1) * 3 := by
    rw [List.length_append, flat3 z hz]; simp [hcs]; omega
  have h2 : (((cs ++ List.replicate x DV.any).drop (k * 3)).take ((n - k) * 3)).length = (n - k) * 3 := by simp [hcs]; omega
  have h3 : (splice ((cs ++ List.replicate x DV.any).take (k * 3) ++ (List.replicate (n + 1 - k) z).flatten) (k * 3) ds).length = (n + 1) * 3 := by
    rw [splice_length _ _ _ (by rw [h1, hds]; omega), h1]
  apply List.ext_getElem?
  intro j
  rw [splice, splice_get _ _ _ (by rw [h2, h3]; omega), splice, splice_get _ _ _ (by rw [h1, hds]; omega)]
  simp only [insR, Int.toNat_natCast, h2, hds]
  by_cases c1 : j < k * 3
  · rw [if_neg (by omega), if_neg (by omega), List.append_assoc, List.getElem?_append_left (by simp [hcs]; omega), List.getElem?_append_left (by simp [hcs]; omega), List.getElem?_take, List.getElem?_take, if_pos c1, if_pos c1, List.getElem?_append_left (by omega)]
  by_cases c2 : j < (k + 1) * 3
  · rw [if_neg (by omega), if_pos (by omega), List.append_assoc, List.getElem?_append_right (by simp [hcs]; omega), List.getElem?_append_left (by simp [hcs, hds]; omega)]
    congr 1
    simp [hcs]; omega
  by_cases c3 : j < (n + 1) * 3
  · rw [if_pos (by omega), List.getElem?_take, if_pos (by omega), List.getElem?_drop, List.getElem?_append_left (by omega), List.append_assoc, List.getElem?_append_right (by simp [hcs]; omega), List.getElem?_append_right (by simp [hcs, hds]; omega), List.getElem?_drop]
    congr 1
    simp [hcs, hds]; omega
  · rw [if_neg (by omega), if_neg (by omega), List.getElem?_eq_none (by rw [h1]; omega), List.getElem?_eq_none (by simp [hcs, hds]; omega)]
theorem ins_room (cs ds : List DV) (n k x : Nat) (hcs : cs.length = n * 3) (hds : ds.length = 3) (hk : k < n) (hx : 3 ≤ x) :
    (splice (splice (cs ++ List.replicate x DV.any) ((k + 1) * 3) (((cs ++ List.replicate x DV.any).drop (k * 3)).take ((n - k) * 3))) (k * 3) ds).take ((n + 1) * 3) = insR cs ds (k : Int) := by
  have h1 : (cs ++ List.replicate x DV.any).length = n * 3 + x := by simp [hcs]
  have h2 : (((cs ++ List.replicate x DV.any).drop (k * 3)).take ((n - k) * 3)).length = (n - k) * 3 := by simp [hcs]; omega
  have h3 : (splice (cs ++ List.replicate x DV.any) ((k + 1) * 3) (((cs ++ List.replicate x DV.any).drop (k * 3)).take ((n - k) * 3))).length = n * 3 + x := by
    rw [splice_length _ _ _ (by rw [h1, h2]; omega), h1]
  apply List.ext_getElem?
  intro j
  rw [List.getElem?_take, splice, splice_get _ _ _ (by rw [h3, hds]; omega), splice, splice_get _ _ _ (by rw [h1, h2]; omega)]
  simp only [insR, Int.toNat_natCast, h2, hds]
  by_cases c1 : j < k * 3
  · rw [if_pos (by omega), if_neg (by omega), if_neg (by omega), List.append_assoc, List.getElem?_append_left (by omega), List.getElem?_append_left (by simp [hcs]; omega), List.getElem?_take, if_pos c1]
  by_cases c2 : j < (k + 1) * 3
  · rw [if_pos (by omega), if_pos (by omega), List.append_assoc, List.getElem?_append_right (by simp [hcs]; omega), List.getElem?_append_left (by simp [hcs, hds]; omega)]
    congr 1
    simp [hcs]; omega
  by_cases c3 : j < (n + 1) * 3
  · rw [if_pos (by omega), if_neg (by omega), if_pos (by omega), List.getElem?_take, if_pos (by omega), List.getElem?_drop, List.getElem?_append_left (by omega), List.append_assoc, List.getElem?_append_right (by simp [hcs]; omega), List.getElem?_append_right (by simp [hcs, hds]; omega), List.getElem?_drop]
    congr 1
    simp [hcs, hds]; omega
  · rw [if_neg (by omega), List.getElem?_eq_none (by simp [hcs, hds]; omega)]
def delR (cs : List DV) (i : Int) : List DV := cs.take (i.toNat * 3) ++ cs.drop (i.toNat * 3 + 3)
theorem del_room (cs z : List DV) (n k x : Nat) (hcs : cs.length = n * 3) (hz : z.length = 3) (hk : k < n) :
    (splice (splice (cs ++ List.replicate x DV.any) (k * 3) (((cs ++ List.replicate x DV.any).drop ((k + 1) * 3)).take ((n - (k + 1)) * 3))) ((n - 1) * 3) (List.replicate 1 z).flatten).take ((n - 1) * 3) = delR cs (k : Int) := by
  have h1 : (cs ++ List.replicate x DV.any).length = n * 3 + x := by simp [hcs]
  have h2 : (((cs ++ List.replicate x DV.any).drop ((k + 1) * 3)).take ((n - (k + 1)) * 3)).length = (n - (k + 1)) * 3 := by simp [hcs]; omega
  have h3 : (splice (cs ++ List.replicate x DV.any) (k * 3) (((cs ++ List.replicate x DV.any).drop ((k + 1) * 3)).take ((n - (k + 1)) * 3))).length = n * 3 + x := by
    rw [splice_length _ _ _ (by rw [h1, h2]; omega), h1]
  have h4 := flat3 z hz 1
  apply List.ext_getElem?
  intro j
  rw [List.getElem?_take, splice, splice_get _ _ _ (by rw [h3, h4]; omega), splice, splice_get _ _ _ (by rw [h1, h2]; omega)]
  simp only [delR, Int.toNat_natCast, h2, h4]
  by_cases c1 : j < k * 3
  · rw [if_pos (by omega), if_neg (by omega), if_neg (by omega), List.getElem?_append_left (by omega), List.getElem?_append_left (by simp [hcs]; omega), List.getElem?_take, if_pos c1]
  by_cases c3 : j < (n - 1) * 3
  · rw [if_pos (by omega), if_neg (by omega), if_pos (by omega), List.getElem?_take, if_pos (by omega), List.getElem?_drop, List.getElem?_append_left (by omega), List.getElem?_append_right (by simp [hcs]; omega), List.getElem?_drop]
    congr 1
    simp [hcs]; omega
  · rw [if_neg (by omega), List.getElem?_eq_none (by simp [hcs]; omega)]

set_option maxRecDepth 100000 in
set_option maxHeartbeats 8000000 in
theorem w_insert (cs ds : List DV) (n k : Nat) (i : Int) (v w : Nat) (hcs : cs.length = n * 3) (hds : ds.length = 3) (hi : i = k) (h1 : k < n) (hn : n ≤ 1000000) :
    FnD Try.prog 26 [.view 3 0 v 0 n, .d (.sc (.int .i64 i)), .view 3 1 w 0 1] [⟨29, cs, true, v, true⟩, ⟨29, ds, false, w, true⟩]
      (fun r st' => (r = .view 3 0 (v + 1) 0 (n + 1) ∧ st' = [⟨29, insR cs ds i, true, v + 1, true⟩, ⟨29, ds, false, w, true⟩]) ∨ (∃ st0, r = .view 3 2 0 0 (n + 1) ∧ st' = [⟨29, st0, false, v, true⟩, ⟨29, ds, false, w, true⟩, ⟨29, insR cs ds i, true, 0, true⟩])) := by
  refine FnD.reveal 0 3 n _ rfl rfl (by simp) hcs fun c hc => ?_
  obtain ⟨cs', hcs'⟩ : ∃ x, x = cs ++ List.replicate ((c - n) * 3) DV.any := ⟨_, rfl⟩
  have hlen : cs'.length = c * 3 := by rw [hcs', List.length_append, List.length_replicate, hcs]; omega
  show FnD Try.prog 26 [.view 3 0 v 0 n, .d (.sc (.int .i64 i)), .view 3 1 w 0 1] [⟨29, cs ++ List.replicate ((c - n) * 3) DV.any, false, v, true⟩, ⟨29, ds, false, w, true⟩] _
  rw [← hcs']
  refine FnD_cbv (T := fun _ => tabY [5000] []) (H := fun _ => []) (tabY_ok _ _) noK_ok follows_mixed Try.func26 rfl Try.ntmps26 (by simp) fun A X W hA hX hW => ?_
  cbv
  repeat' first
    | (refine part (fun h => ?_) (fun h => ?_) <;> try cbv)
    | (refine And.intro ?_ ?_)
    | (refine exV hX ovl_pair rfl rfl rfl rfl rfl rfl (by decide) ?_ ?_) <;> try cbv
  all_goals subst hA hX hW hi
  all_goals simp only [A0, nc, decide_eq_true_eq, decide_eq_false_iff_not, Bool.not_eq_true', Bool.not_eq_false'] at *
  all_goals have e1 : IntKind.wrap .i64 ((n : Int) + ((1 : Nat) : Int)) = ((n + 1 : Nat) : Int) := by rw [IntKind.wrap_i64]; omega
  all_goals have e2 : IntKind.wrap .i64 (((n + 1 : Nat) : Int) - (k : Int)) = ((n + 1 - k : Nat) : Int) := by rw [IntKind.wrap_i64]; omega
  all_goals have e3 : IntKind.wrap .i64 ((k : Int) + ((1 : Nat) : Int)) = ((k + 1 : Nat) : Int) := by rw [IntKind.wrap_i64]; omega
  all_goals have f2 : n ≠ k := by omega
  all_goals try simp only [e1, e2, e3, Int.toNat_natCast, Nat.zero_add, show Int.toNat 0 = 0 from rfl, Nat.zero_mul, List.drop_zero, Nat.sub_zero]
  all_goals have m1 : min 1 (n + 1 - k) = 1 := by omega
  all_goals have m2 : min (n - k) (n + 1 - (k + 1)) = n - k := by omega
  all_goals have m3 : min (n + 1 - k) (n + 1 - (k + 1)) = n - k := by omega
  all_goals have m4 : k + (n + 1 - k) = n + 1 := by omega
  all_goals have t1 : ds.take (1 * 3) = ds := List.take_of_length_le (by omega)
  all_goals have fl : ([DV.d (.sc (.string { data := { toList := [] } })), DV.d (.sc (.string { data := { toList := [] } })), DV.d (.sc (.int .i64 0))] : List DV).length = 3 := rfl
  all_goals have f3 := flat3 _ fl (n + 1 - k)
  all_goals try simp only [m1, m2, m3, m4, t1]
  all_goals first
    | rfl
    | assumption
    | omega
    | (exfalso; simp_all; done)
    | (exfalso; omega)
    | (show Region.lexB _ _ = true; kernel_rfl)
    | (show turnsB _ = true; kernel_rfl)
    | exact ⟨⟨by omega, by omega⟩, .inl (by omega), .inr (.inl (by omega))⟩
    | (refine ⟨⟨by omega, by omega⟩, ?_, ?_⟩ <;> first | exact .inl (by omega) | exact .inr (.inl (by omega)) | exact .inr ⟨rfl, by omega⟩ | exact .inr (.inr ⟨rfl, by omega⟩))
    | (intro e; rw [e] at hlen; simp at hlen; omega)
    | (simp only [List.length_append, f3, List.length_take]; omega)
    | (refine ⟨⟨by omega, by omega⟩, ?_, ?_⟩ <;> first | exact .inl (by omega) | exact .inr (.inl (by omega)) | exact .inr ⟨trivial, by omega⟩ | exact .inr (.inr ⟨trivial, by omega⟩))
    | (simp only [splice, List.length_append, f3, List.length_take, List.length_drop]; omega)
    | (refine RetW.refl (.inr ⟨cs', rfl, ?_⟩)
       rw [List.take_take, Nat.min_self, hcs', ins_grow cs ds _ n k _ hcs hds fl h1]
       done)
    | (refine ret_hide 0 ((n + 1) * 3) _ rfl ?_
       refine ret_bump rfl (RetW.refl (.inl ⟨rfl, ?_⟩))
       rw [List.take_take, Nat.min_eq_left (show (n - k) * 3 ≤ (n + 1 - k) * 3 by omega), hcs']
       simp only [List.set_cons_zero, ins_room cs ds n k _ hcs hds h1 (show 3 ≤ (c - n) * 3 by omega)]
       done)
end Go.Proofs.Ytbceikkjogbgeaa
