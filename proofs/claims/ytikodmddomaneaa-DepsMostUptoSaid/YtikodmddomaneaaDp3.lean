/- Attributes laid out of numbers. No condition. -/
import Derived.Test.YtikodmddomaneaaDp2
namespace Go.Proofs.Ytikodmddomaneaa
open Go.RowKit
set_option linter.all false
set_option maxHeartbeats 4000000
def gv (xs : List (List PD)) (k : Nat) : Int := match xs[k]? with
  | some [.sc (.int _ n)] => n
  | _ => 0
def atX (seq : Int) (xs : List (List PD)) : Attr := ⟨seq, gv xs 0, gv xs 1, gv xs 2, gv xs 3, gv xs 4, gv xs 5, gv xs 6⟩
def isN (xs : List (List PD)) : Prop := ∃ ns : List Int, xs = ns.map fun n => [.sc (.int .i64 n)]
theorem gv_at {xs : List (List PD)} (h : isN xs) {k : Nat} (hk : (k : Int) < xs.length) : xs.getD k [] = [.sc (.int .i64 (gv xs k))] := by
  obtain ⟨ns, rfl⟩ := h
  have : k < ns.length := by simp at hk; omega
  simp [gv, List.getD_eq_getElem?_getD, this]
theorem gv_no {xs : List (List PD)} {k : Nat} (hk : ¬ (k : Int) < xs.length) : gv xs k = 0 := by
  unfold gv
  rw [List.getElem?_eq_none (by omega)]

structure FsL where
  atF : Int → List (List PD) → Attr
  isN : List (List PD) → Prop
def FsL0 : FsL where
  atF := atX
  isN := isN
set_option maxRecDepth 100000 in
theorem v_atF (seq : Int) (xs : List (List PD)) (hp0 : FsL0.isN xs) : FnV Try.prog 10 [intD seq, .d (.slc 1 xs)] (Attr.D ((atX seq xs))) := by
  refine FnD_cbv (T := fun _ => tabY [22, 5003] []) (H := fun _ => []) (tabY_ok _ _) noK_ok follows_mixed Try.func10 rfl Try.ntmps10 (by simp) fun A X W hA hX hW => ?_
  cbv
  have l0 : A.cmp .lss 0 7 = true := by subst hA; rfl
  cbv at l0
  have l1 : A.cmp .lss 1 7 = true := by subst hA; rfl
  cbv at l1
  have l2 : A.cmp .lss 2 7 = true := by subst hA; rfl
  cbv at l2
  have l3 : A.cmp .lss 3 7 = true := by subst hA; rfl
  cbv at l3
  have l4 : A.cmp .lss 4 7 = true := by subst hA; rfl
  cbv at l4
  have l5 : A.cmp .lss 5 7 = true := by subst hA; rfl
  cbv at l5
  have l6 : A.cmp .lss 6 7 = true := by subst hA; rfl
  cbv at l6
  have l7 : A.cmp .lss 7 7 = false := by subst hA; rfl
  cbv at l7
  have b0 : A.bin .add .i64 0 1 = 1 := by subst hA; rfl
  cbv at b0
  have b1 : A.bin .add .i64 1 1 = 2 := by subst hA; rfl
  cbv at b1
  have b2 : A.bin .add .i64 2 1 = 3 := by subst hA; rfl
  cbv at b2
  have b3 : A.bin .add .i64 3 1 = 4 := by subst hA; rfl
  cbv at b3
  have b4 : A.bin .add .i64 4 1 = 5 := by subst hA; rfl
  cbv at b4
  have b5 : A.bin .add .i64 5 1 = 6 := by subst hA; rfl
  cbv at b5
  have b6 : A.bin .add .i64 6 1 = 7 := by subst hA; rfl
  cbv at b6
  have o0_0 : A.off 0 0 1 = 0 := by subst hA; rfl
  cbv at o0_0
  have o0_1 : A.off 0 1 1 = 1 := by subst hA; rfl
  cbv at o0_1
  have o0_2 : A.off 0 2 1 = 2 := by subst hA; rfl
  cbv at o0_2
  have o0_3 : A.off 0 3 1 = 3 := by subst hA; rfl
  cbv at o0_3
  have o0_4 : A.off 0 4 1 = 4 := by subst hA; rfl
  cbv at o0_4
  have o0_5 : A.off 0 5 1 = 5 := by subst hA; rfl
  cbv at o0_5
  have o0_6 : A.off 0 6 1 = 6 := by subst hA; rfl
  cbv at o0_6
  refine unrollL (T := fun _ => tabY [22, 5003] []) (H := fun _ => []) (tabY_ok _ _) noK_ok follows_mixed hA hX 9 fun R hR => ?_
  repeat' first
    | (simp only [l0, l1, l2, l3, l4, l5, l6, l7, b0, b1, b2, b3, b4, b5, b6, o0_0, o0_1, o0_2, o0_3, o0_4, o0_5, o0_6, decide_true]; cbv)
    | (refine part (fun h => ?_) (fun h => ?_) <;> try cbv)
    | (refine And.intro ?_ ?_)
    | (refine hR _ _ _ ?_; cbv)
  all_goals clear l0 l1 l2 l3 l4 l5 l6 l7 b0 b1 b2 b3 b4 b5 b6 o0_0 o0_1 o0_2 o0_3 o0_4 o0_5 o0_6
  all_goals try clear hR
  all_goals subst hA hX hW
  all_goals have cb : ∀ b : Bool, (bif b then true else false) = b := by intro b; cases b <;> rfl
  all_goals have cf : ∀ b : Bool, (bif b then false else false) = false := by intro b; cases b <;> rfl
  all_goals simp only [A0, nc, cb, cf, decide_eq_true_eq, decide_eq_false_iff_not, show Int.toNat 0 = 0 from rfl, show Int.toNat 1 = 1 from rfl, show Int.toNat 2 = 2 from rfl, show Int.toNat 3 = 3 from rfl, show Int.toNat 4 = 4 from rfl, show Int.toNat 5 = 5 from rfl, show Int.toNat 6 = 6 from rfl, show Int.toNat 7 = 7 from rfl] at *
  all_goals clear cb cf
  all_goals first
    | (exact absurd ‹false = true› (by decide))
    | (show Region.lexB _ _ = true; kernel_rfl)
    | (show turnsB _ = true; kernel_rfl)
    | (intros; first | assumption | trivial | omega | (simp_all; done))
    | (refine ⟨by omega, by omega⟩)
    | (have G := fun (k : Nat) (hk : (k : Int) < xs.length) => gv_at hp0 hk
       have G0 := fun (k : Nat) (hk : ¬ (k : Int) < xs.length) => gv_no hk
       first
         | (rw [G 0 (by omega)]; simp; done)
         | (rw [G 1 (by omega)]; simp; done)
         | (rw [G 2 (by omega)]; simp; done)
         | (rw [G 3 (by omega)]; simp; done)
         | (rw [G 4 (by omega)]; simp; done)
         | (rw [G 5 (by omega)]; simp; done)
         | (rw [G 6 (by omega)]; simp; done)
         | (refine ret_v ?_ rfl
            unfold atX
            try rw [G 0 (by omega)]
            try rw [G 1 (by omega)]
            try rw [G 2 (by omega)]
            try rw [G 3 (by omega)]
            try rw [G 4 (by omega)]
            try rw [G 5 (by omega)]
            try rw [G 6 (by omega)]
            try rw [G0 0 (by omega)]
            try rw [G0 1 (by omega)]
            try rw [G0 2 (by omega)]
            try rw [G0 3 (by omega)]
            try rw [G0 4 (by omega)]
            try rw [G0 5 (by omega)]
            try rw [G0 6 (by omega)]
            rfl))

def kn_atF (F : FsL) : FuncId × (List DV → RV) := (10, fun args => match args with
  | [.d (.sc (.int .i64 seq)), .d (.slc 1 xs)] => some ([F.isN xs], Attr.D ((F.atF seq xs)))
  | [.d (.sc (.int .i64 seq)), .d (.sc (.slice none 0 0))] => some ([F.isN []], Attr.D ((F.atF seq [])))
  | _ => none)
theorem ok_atF (args : List DV) (cs : List Prop) (r : DV) (h : (kn_atF FsL0).2 args = some (cs, r)) (hc : allP cs True) : FnV Try.prog 10 args r ∧ closedL 0 args = true := by
  unfold kn_atF at h
  simp only at h
  split at h
  · cases h; exact ⟨v_atF _ _ hc.1, rfl⟩
  · cases h; exact ⟨FnP.nils (v_atF _ [] hc.1) ⟨.inl rfl, ⟨.inr ⟨rfl, _, rfl⟩, trivial⟩⟩, rfl⟩
  · cases h
end Go.Proofs.Ytikodmddomaneaa
