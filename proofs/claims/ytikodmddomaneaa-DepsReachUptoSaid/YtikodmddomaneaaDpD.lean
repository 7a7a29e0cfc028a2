/- The plain law of what is listed. -/
import Derived.Test.YtikodmddomaneaaDp5
namespace Go.Proofs.Ytikodmddomaneaa
open Go.RowKit
set_option linter.all false
def blk (r : Int) (k : Int) : Nat → List Inst
  | 0 => []
  | n + 1 => ⟨r, k + 1⟩ :: blk r (k + 1) n
theorem blk_len (r : Int) : ∀ (k : Int) (n : Nat), (blk r k n).length = n
  | _, 0 => rfl
  | k, n + 1 => by simp [blk, blk_len r (k + 1) n]
theorem blk_mem (r : Int) : ∀ (k : Int) (n : Nat) (i : Inst), i ∈ blk r k n ↔ i.replica = r ∧ k < i.slot ∧ i.slot ≤ k + n
  | k, 0, i => by
    simp only [blk, List.not_mem_nil, false_iff]
    omega
  | k, n + 1, i => by
    simp only [blk, List.mem_cons, blk_mem r (k + 1) n i]
    obtain ⟨a, b⟩ := i
    simp only [Inst.mk.injEq]
    omega
def lessP (a b : Inst) : Prop := lessI a b = true
theorem lessP_iff {a b : Inst} : lessP a b ↔ a.replica < b.replica ∨ (a.replica = b.replica ∧ a.slot < b.slot) := by
  simp [lessP, lessI]
theorem blk_up (r : Int) : ∀ (k : Int) (n : Nat), (blk r k n).Pairwise lessP
  | _, 0 => List.Pairwise.nil
  | k, n + 1 => by
    refine List.Pairwise.cons (fun i hi => ?_) (blk_up r (k + 1) n)
    rw [blk_mem] at hi
    rw [lessP_iff]
    simp only
    omega
theorem listR_blk (r : Int) : ∀ (n : Nat) (k : Int) (out : List Inst), out.length + n ≤ 1000 → listR r k n out = out ++ blk r k n
  | 0, _, out, _ => by simp [listR, blk]
  | n + 1, k, out, h => by
    rw [listR, if_pos (by omega), listR_blk r n (k + 1) _ (by simp; omega)]
    simp [blk]
def noDeps : Deps := ⟨0, 0, 0, 0, 0, 0, 0⟩
/-- Every entry lies between 0 and 60. -/
def small (d : Deps) : Prop := (0 ≤ d.d0 ∧ d.d0 ≤ 60) ∧ (0 ≤ d.d1 ∧ d.d1 ≤ 60) ∧ (0 ≤ d.d2 ∧ d.d2 ≤ 60) ∧ (0 ≤ d.d3 ∧ d.d3 ≤ 60) ∧ (0 ≤ d.d4 ∧ d.d4 ≤ 60) ∧ (0 ≤ d.d5 ∧ d.d5 ≤ 60) ∧ (0 ≤ d.d6 ∧ d.d6 ≤ 60)
theorem small.r {d : Deps} (h : small d) : rDeps d := by
  unfold small at h
  unfold rDeps r64
  omega
theorem listD_eq {d : Deps} (h : small d) : listD d noDeps = ((((((blk 0 0 d.d0.toNat ++ blk 1 0 d.d1.toNat) ++ blk 2 0 d.d2.toNat) ++ blk 3 0 d.d3.toNat) ++ blk 4 0 d.d4.toNat) ++ blk 5 0 d.d5.toNat) ++ blk 6 0 d.d6.toNat) := by
  unfold small at h
  have e : ∀ r, noDeps.at r = 0 := by intro r; unfold Deps.at noDeps; simp
  have m : max (0 : Int) 0 = 0 := rfl
  unfold listD
  simp only [listN, e, m]
  have a0 : d.at ((0 : Nat) : Int) = d.d0 := rfl
  have a1 : d.at ((1 : Nat) : Int) = d.d1 := rfl
  have a2 : d.at ((2 : Nat) : Int) = d.d2 := rfl
  have a3 : d.at ((3 : Nat) : Int) = d.d3 := rfl
  have a4 : d.at ((4 : Nat) : Int) = d.d4 := rfl
  have a5 : d.at ((5 : Nat) : Int) = d.d5 := rfl
  have a6 : d.at ((6 : Nat) : Int) = d.d6 := rfl
  rw [a0, a1, a2, a3, a4, a5, a6]
  simp only [Int.sub_zero]
  rw [listR_blk _ _ _ [] (by simp; omega), List.nil_append]
  rw [listR_blk _ _ _ (blk _ _ _) (by simp [blk_len]; omega)]
  rw [listR_blk _ _ _ (_ ++ _) (by simp [blk_len]; omega)]
  rw [listR_blk _ _ _ ((_ ++ _) ++ _) (by simp [blk_len]; omega)]
  rw [listR_blk _ _ _ (((_ ++ _) ++ _) ++ _) (by simp [blk_len]; omega)]
  rw [listR_blk _ _ _ ((((_ ++ _) ++ _) ++ _) ++ _) (by simp [blk_len]; omega)]
  rw [listR_blk _ _ _ (((((_ ++ _) ++ _) ++ _) ++ _) ++ _) (by simp [blk_len]; omega)]
  rfl
theorem listD_len {d : Deps} (h : small d) : ((listD d noDeps).length : Int) = d.d0 + d.d1 + d.d2 + d.d3 + d.d4 + d.d5 + d.d6 := by
  rw [listD_eq h]
  unfold small at h
  simp only [List.length_append, blk_len]
  omega
theorem listD_mem {d : Deps} (h : small d) (i : Inst) : i ∈ listD d noDeps ↔ reachD d i = true := by
  rw [listD_eq h]
  unfold small at h
  obtain ⟨r, s⟩ := i
  simp only [List.mem_append, blk_mem, reachD, rightI, Bool.and_eq_true, decide_eq_true_eq, Deps.at]
  constructor
  · rintro ((((((⟨rfl, h1, h2⟩ | ⟨rfl, h1, h2⟩) | ⟨rfl, h1, h2⟩) | ⟨rfl, h1, h2⟩) | ⟨rfl, h1, h2⟩) | ⟨rfl, h1, h2⟩) | ⟨rfl, h1, h2⟩) <;> simp <;> omega
  · rintro ⟨⟨⟨⟨h1, h2⟩, h3⟩, h4⟩, h5⟩
    have : r = 0 ∨ r = 1 ∨ r = 2 ∨ r = 3 ∨ r = 4 ∨ r = 5 ∨ r = 6 := by omega
    rcases this with rfl | rfl | rfl | rfl | rfl | rfl | rfl <;> simp at h5 ⊢ <;> omega
theorem up_app {l : List Inst} {r : Int} {n : Nat} (h : l.Pairwise lessP) (hl : ∀ i ∈ l, i.replica < r) : (l ++ blk r 0 n).Pairwise lessP := by
  refine List.pairwise_append.2 ⟨h, blk_up _ _ _, fun a ha b hb => ?_⟩
  rw [blk_mem] at hb
  rw [lessP_iff, hb.1]
  exact .inl (hl a ha)
theorem listD_up {d : Deps} (h : small d) : (listD d noDeps).Pairwise lessP := by
  rw [listD_eq h]
  refine up_app (up_app (up_app (up_app (up_app (up_app (blk_up _ _ _) ?_) ?_) ?_) ?_) ?_) ?_
  all_goals
    intro i hi
    simp only [List.mem_append, blk_mem] at hi
    omega
theorem listD_less {d : Deps} (h : small d) {k : Nat} (hk : 0 < k) (hl : k < (listD d noDeps).length) : lessI ((listD d noDeps)[k - 1]'(by omega)) (listD d noDeps)[k] = true :=
  List.pairwise_iff_getElem.1 (listD_up h) (k - 1) k (by omega) hl (by omega)
theorem listD_reach {d : Deps} (h : small d) {k : Nat} (hl : k < (listD d noDeps).length) : reachD d (listD d noDeps)[k] = true := (listD_mem h _).1 (List.getElem_mem hl)

end Go.Proofs.Ytikodmddomaneaa
