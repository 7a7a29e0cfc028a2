/- Chapter 3's laws of numbers and of errors that stay. No condition. -/
import Derived.Test.YtligainhbdidgaaRd4
namespace Go.Proofs.Ytligainhbdidgaa
open Go.RowKit
set_option linter.all false

theorem zig_zag (u : Int) (h : 0 ≤ u) : zig (zagI u) = u := by
  unfold zagI zig
  split <;> split <;> omega
theorem toNat_lit (n : Nat) (h : n < 256) : (UInt8.ofNat n).toNat = n := by
  simp
  omega
theorem pow7 (i : Nat) : 2 ^ (7 * (i + 1)) = 128 * 2 ^ (7 * i) := by rw [Nat.mul_add, Nat.pow_add, Nat.mul_comm]
theorem at9 (u : Nat) (h : u * 2 ^ (7 * 9) < 18446744073709551616) : u < 2 := by omega
/-- What is written is read. -/
theorem sev_numF : ∀ (f i u m : Nat) (l : List UInt8), i + f = 9 → (0 < i → 0 < u) → u * 2 ^ (7 * i) < 18446744073709551616 → sev i m (numF (f + 1) u ++ l) = .num (m + u * 2 ^ (7 * i)) (i + (numF (f + 1) u).length)
  | f, i, u, m, l, hf, hi, hu => by
      have h9 : i = 9 → u < 2 := fun e => by subst e; exact at9 u hu
      by_cases h : u < 128
      · rw [numF_last f u h]
        have ht := toNat_lit u (by omega)
        have e : sev i m ([UInt8.ofNat u] ++ l) = if (0 < i ∧ (UInt8.ofNat u).toNat = 0) ∨ (i = 9 ∧ 1 < (UInt8.ofNat u).toNat) then .form else if (UInt8.ofNat u).toNat < 128 then .num (m + (UInt8.ofNat u).toNat % 128 * 2 ^ (7 * i)) (i + 1) else sev (i + 1) (m + (UInt8.ofNat u).toNat % 128 * 2 ^ (7 * i)) l := rfl
        rw [e, ht, if_neg (by omega), if_pos h, Nat.mod_eq_of_lt h]
        rfl
      · rw [numF_step f u h]
        have ht := toNat_lit (u % 128 + 128) (by omega)
        have e : sev i m (UInt8.ofNat (u % 128 + 128) :: numF f (u / 128) ++ l) = if (0 < i ∧ (UInt8.ofNat (u % 128 + 128)).toNat = 0) ∨ (i = 9 ∧ 1 < (UInt8.ofNat (u % 128 + 128)).toNat) then .form else if (UInt8.ofNat (u % 128 + 128)).toNat < 128 then .num (m + (UInt8.ofNat (u % 128 + 128)).toNat % 128 * 2 ^ (7 * i)) (i + 1) else sev (i + 1) (m + (UInt8.ofNat (u % 128 + 128)).toNat % 128 * 2 ^ (7 * i)) (numF f (u / 128) ++ l) := rfl
        have hmul : u * 2 ^ (7 * i) = u % 128 * 2 ^ (7 * i) + u / 128 * 2 ^ (7 * (i + 1)) := by
          rw [pow7, ← Nat.mul_assoc, ← Nat.add_mul]
          congr 1
          omega
        match f, hf with
        | 0, hf =>
          have := h9 (by omega)
          omega
        | f + 1, hf =>
          rw [e, ht, if_neg (by omega), if_neg (by omega), sev_numF f (i + 1) (u / 128) _ l (by omega) (by omega) (by omega)]
          rw [show (u % 128 + 128) % 128 = u % 128 by omega, List.length_cons, hmul]
          congr 1 <;> omega
theorem sev_numB (n : Int) (h : r64 n) (l : List UInt8) : sev 0 0 (numB n ++ l) = .num (zig n).toNat (numB n).length := by
  have hz := zig_range h
  have := sev_numF 9 0 (zig n).toNat 0 l rfl (by omega) (by omega)
  rw [show numB n = numF (9 + 1) (zig n).toNat from rfl, this]
  simp
theorem numB_inj {a b : Int} (ha : r64 a) (hb : r64 b) (h : numB a = numB b) : a = b := by
  have h1 := sev_numB a ha []
  rw [h, sev_numB b hb []] at h1
  have h2 : (zig b).toNat = (zig a).toNat := by injection h1
  have h3 := zig_range ha
  have h4 := zig_range hb
  rw [← zag_zig a ha, ← zag_zig b hb, show zig a = zig b by omega]
theorem numF_mono : ∀ (f u v : Nat), u ≤ v → (numF f u).length ≤ (numF f v).length
  | 0, u, v, _ => by simp [numF]
  | f + 1, u, v, h => by
      by_cases hu : u < 128
      · rw [numF_last f u hu]
        by_cases hv : v < 128
        · rw [numF_last f v hv]; simp
        · rw [numF_step f v hv]; simp
      · rw [numF_step f u hu, numF_step f v (by omega)]
        have := numF_mono f (u / 128) (v / 128) (by omega)
        simpa using this
theorem numF_pos (f u : Nat) : 0 < (numF (f + 1) u).length := by
  by_cases hu : u < 128
  · rw [numF_last f u hu]; simp
  · rw [numF_step f u hu]; simp
theorem numB_mono {a b : Int} (h0 : 0 ≤ a) (h : a ≤ b) : (numB a).length ≤ (numB b).length := by
  refine numF_mono _ _ _ ?_
  unfold zig
  split <;> split <;> omega
/-- What is read was so written. -/
theorem sev_took : ∀ (l : List UInt8) (i m v k : Nat), i ≤ 9 → sev i m l = .num v k → ∃ u, v = m + u * 2 ^ (7 * i) ∧ i < k ∧ k ≤ i + l.length ∧ l.take (k - i) = numF (10 - i) u ∧ (0 < i → 0 < u)
  | [], i, m, v, k, _, h => by simp [sev] at h
  | c :: l, i, m, v, k, hi, h => by
      have hc : c.toNat < 256 := c.toNat_lt
      unfold sev at h
      split at h
      · cases h
      · rename_i hf
        split at h
        · rename_i h8
          cases h
          refine ⟨c.toNat, by rw [Nat.mod_eq_of_lt h8], by omega, by simp, ?_, by omega⟩
          rw [show 10 - i = (9 - i) + 1 by omega, numF_last _ _ h8]
          simp
        · rename_i h8
          have h9 : i ≠ 9 := by omega
          obtain ⟨u, h1, h2, h3, h4, h5⟩ := sev_took l (i + 1) _ v k (by omega) h
          have hu := h5 (by omega)
          refine ⟨c.toNat % 128 + 128 * u, ?_, by omega, by simp only [List.length_cons]; omega, ?_, by omega⟩
          · rw [h1, pow7, Nat.add_mul, Nat.mul_comm 128 u, Nat.mul_assoc]
            omega
          · rw [show 10 - i = (10 - (i + 1)) + 1 by omega, numF_step _ _ (by omega), show k - i = (k - (i + 1)) + 1 by omega, List.take_succ_cons, h4]
            have e1 : (c.toNat % 128 + 128 * u) / 128 = u := by omega
            have e2 : (c.toNat % 128 + 128 * u) % 128 + 128 = c.toNat := by omega
            rw [e1, e2]
            simp
theorem numB_took {l : List UInt8} {v k : Nat} (h : sev 0 0 l = .num v k) : l.take k = numB (zagI v) ∧ 0 < k ∧ k ≤ l.length := by
  obtain ⟨u, h1, h2, h3, h4, _⟩ := sev_took l 0 0 v k (by omega) h
  have : v = u := by simpa using h1
  subst this
  refine ⟨?_, h2, by omega⟩
  rw [numB, zig_zag _ (by omega)]
  simpa using h4
/-- How many sevens a number has. -/
def sevens : Nat → Nat → Int
  | 0, _ => 0
  | f + 1, u => if u < 128 then 1 else sevens f (u / 128) + 1


theorem isB_num (n : Int) : isB (numX [] n) := ⟨numB n, by simp [numX], by have := numB_length n; omega⟩
theorem order1 {a b : Int} (ha : r64 a) (hb : r64 b) : sameX (numX [] a) (numX [] b) = decide (a = b) := by
  by_cases h : a = b
  · subst h; simp [sameX]
  · have : numX [] a ≠ numX [] b := fun e => h (numB_inj ha hb (bytesP_inj.1 (by simpa [numX] using e)))
    simp [sameX, h, this]
theorem numX_len (n : Int) : (numX [] n).length = (numB n).length := by simp [numX, bytesP_length]
theorem order2 (a : Int) : 1 ≤ (numX [] a).length ∧ (numX [] a).length ≤ 10 := by
  rw [numX_len]
  exact ⟨numF_pos 9 _, numB_length a⟩
theorem order3 (a b : Int) (h : 0 ≤ a) (hb : a ≤ b) : (numX [] a).length ≤ (numX [] b).length := by
  rw [numX_len, numX_len]
  exact numB_mono h hb

set_option maxRecDepth 100000 in
theorem v_order (a b : Int) (hp0 : r64 a) (hp1 : r64 b) : FnV Try.prog 14 [intD a, intD b] (boolD true) := by
  obtain ⟨GFsQ, hFsQ⟩ : ∃ F, F = FsQ0 := ⟨_, rfl⟩
  obtain ⟨GFsT, hFsT⟩ : ∃ F, F = FsT0 := ⟨_, rfl⟩
  have hH : SoundK Try.prog [kn_num GFsQ, kn_same GFsQ, kn_runs3 GFsT] := by subst hFsQ hFsT; exact orK_ok ok_num (orK_ok ok_same (orK_ok ok_runs3 noK_ok))
  have hB : SoundB Try.prog [] := by subst hFsQ hFsT; exact noB_ok
  refine FnD_cbv (T := fun _ => tabY [] []) (H := fun _ => [kn_num GFsQ, kn_same GFsQ, kn_runs3 GFsT]) (tabY_ok _ _) hH follows_mixed Try.func14 rfl Try.ntmps14 (by simp) fun A X W hA hX hW => ?_
  cbv
  repeat' first
    | (refine part (fun h => ?_) (fun h => ?_) <;> try cbv)
    | (refine And.intro ?_ ?_)
    | (with_reducible refine callB hX hB ?_) <;> cbv
  all_goals subst hA hX hW hFsQ hFsT
  all_goals clear hH hB
  all_goals try (show Region.lexB _ _ = true; kernel_rfl)
  all_goals try (show turnsB _ = true; kernel_rfl)
  all_goals simp only [A0, FsQ0, FsT0, decide_eq_true_eq, decide_eq_false_iff_not, Bool.not_eq_true', Bool.not_eq_false'] at *
  all_goals have e1 := order1 hp0 hp1
  all_goals have l1 := order2 a
  all_goals have l3 := order3 a b
  all_goals first
    | assumption
    | exact isB_lit [] _ rfl (by decide)
    | exact isB_num _
    | (intros; simp_all; done)
    | (exfalso; simp_all; omega)
    | (refine ret_v ?_ rfl
       simp [boolD, e1]
       try omega)

end Go.Proofs.Ytligainhbdidgaa
