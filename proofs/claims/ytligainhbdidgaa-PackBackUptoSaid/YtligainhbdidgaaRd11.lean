/- What is written comes back; what is cut off ends too early. No condition. -/
import Derived.Test.YtligainhbdidgaaRd7
namespace Go.Proofs.Ytligainhbdidgaa
open Go.RowKit
set_option linter.all false

/-- A beginning of what is written ends too early. -/
theorem sev_cut : ∀ (f i u m k : Nat), i + f = 9 → (0 < i → 0 < u) → u * 2 ^ (7 * i) < 18446744073709551616 → k < (numF (f + 1) u).length → sev i m ((numF (f + 1) u).take k) = .short
  | f, i, u, m, 0, _, _, _, _ => by simp [sev]
  | f, i, u, m, k + 1, hf, hi, hu, hk => by
      have h9 : i = 9 → u < 2 := fun e => by subst e; exact at9 u hu
      by_cases h : u < 128
      · rw [numF_last f u h] at hk
        simp at hk
      · rw [numF_step f u h] at hk ⊢
        rw [List.take_succ_cons]
        have ht := toNat_lit (u % 128 + 128) (by omega)
        have e : sev i m (UInt8.ofNat (u % 128 + 128) :: (numF f (u / 128)).take k) = if (0 < i ∧ (UInt8.ofNat (u % 128 + 128)).toNat = 0) ∨ (i = 9 ∧ 1 < (UInt8.ofNat (u % 128 + 128)).toNat) then .form else if (UInt8.ofNat (u % 128 + 128)).toNat < 128 then .num (m + (UInt8.ofNat (u % 128 + 128)).toNat % 128 * 2 ^ (7 * i)) (i + 1) else sev (i + 1) (m + (UInt8.ofNat (u % 128 + 128)).toNat % 128 * 2 ^ (7 * i)) ((numF f (u / 128)).take k) := rfl
        have hmul : u * 2 ^ (7 * i) = u % 128 * 2 ^ (7 * i) + u / 128 * 2 ^ (7 * (i + 1)) := by
          rw [pow7, ← Nat.mul_assoc, ← Nat.add_mul]
          congr 1
          omega
        match f, hf, hk with
        | 0, hf, hk =>
          have := h9 (by omega)
          omega
        | f + 1, hf, hk =>
          rw [e, ht, if_neg (by omega), if_neg (by omega)]
          exact sev_cut f (i + 1) (u / 128) _ k (by omega) (by omega) (by omega) (by simpa using hk)
theorem numB_cut {n : Int} (h : r64 n) {k : Nat} (hk : k < (numB n).length) : sev 0 0 ((numB n).take k) = .short := by
  have hz := zig_range h
  exact sev_cut 9 0 (zig n).toNat 0 k rfl (by omega) (by omega) hk


theorem drop_pre (pre l : List UInt8) : (pre ++ l).drop ((pre.length : Int)).toNat = l := by
  rw [show ((pre.length : Int)).toNat = pre.length by omega, List.drop_left]
theorem num_back (pre rest : List UInt8) (n : Int) (h : r64 n) : numL (pre ++ (numB n ++ rest)) pre.length 0 = (n, (pre.length : Int) + ((numB n).length : Int), (0 : Int)) := by
  unfold numL
  rw [if_neg (by decide), drop_pre, sev_numB n h]
  simp only
  rw [Int.toNat_of_nonneg (zig_range h).1, zag_zig n h]
theorem num_cut (pre : List UInt8) (n : Int) (h : r64 n) (k : Nat) (hk : k < (numB n).length) : numL (pre ++ (numB n).take k) pre.length 0 = ((0 : Int), (pre.length : Int), (3 : Int)) := by
  unfold numL
  rw [if_neg (by decide), drop_pre, numB_cut h hk]
theorem size_list (s : ByteArray) : s.data.toList.length = s.size := by rw [Array.length_toList]; rfl
theorem text_back (pre rest : List UInt8) (s : ByteArray) (hs : s.size ≤ 100) : textL (pre ++ (textB s ++ rest)) pre.length 0 100 = (s, (pre.length : Int) + ((textB s).length : Int), (0 : Int)) := by
  have hn := num_back pre (s.data.toList ++ rest) (s.size : Int) (by unfold r64; omega)
  have hl := size_list s
  have hc : cntL (pre ++ (textB s ++ rest)) pre.length 0 100 = ((s.size : Int), (pre.length : Int) + ((numB s.size).length : Int), (0 : Int)) := by
    unfold cntL textB
    rw [List.append_assoc, hn]
    simp only
    rw [if_neg (by omega)]
  unfold textL
  rw [hc]
  simp only
  rw [if_neg (by simp), if_neg (by simp only [textB, List.length_append, hl]; omega)]
  have hd : ((pre ++ (textB s ++ rest)).drop ((pre.length : Int) + (numB s.size).length).toNat).take ((s.size : Int)).toNat = s.data.toList := by
    rw [show ((pre.length : Int) + ((numB s.size).length : Int)).toNat = (pre ++ numB s.size).length by simp only [List.length_append]; omega, textB, List.append_assoc, ← List.append_assoc pre, List.drop_left, show ((s.size : Int)).toNat = s.data.toList.length by omega, List.take_left]
  rw [hd]
  simp only [textB, List.length_append, hl]
  refine Prod.ext (by simp) (Prod.ext ?_ rfl)
  simp only
  omega
theorem flag_back (pre rest : List UInt8) (f : Bool) : flagL (pre ++ ([if f then 1 else 0] ++ rest)) pre.length 0 = (f, (pre.length : Int) + 1, (0 : Int)) := by
  unfold flagL
  rw [if_neg (by decide), show ((pre.length : Int)).toNat = pre.length by omega]
  have e : (pre ++ ([if f then (1 : UInt8) else 0] ++ rest))[pre.length]? = some (if f then 1 else 0) := by simp
  rw [e]
  cases f <;> simp
theorem flag_cut (pre : List UInt8) : flagL pre pre.length 0 = (false, (pre.length : Int), (3 : Int)) := by
  unfold flagL
  rw [if_neg (by decide), show ((pre.length : Int)).toNat = pre.length by omega, List.getElem?_eq_none (Nat.le_refl _)]
theorem text_cut (pre : List UInt8) (s : ByteArray) (hs : s.size ≤ 100) (k : Nat) (hk : k < (textB s).length) : textL (pre ++ (textB s).take k) pre.length 0 100 = (ByteArray.empty, (pre.length : Int), (3 : Int)) := by
  have hl := size_list s
  have hr : r64 (s.size : Int) := by unfold r64; omega
  rcases Nat.lt_or_ge k (numB s.size).length with h | h
  · have e : (textB s).take k = (numB s.size).take k := by rw [textB, List.take_append_of_le_length (by omega)]
    have hc : cntL (pre ++ (textB s).take k) pre.length 0 100 = ((0 : Int), (pre.length : Int), (3 : Int)) := by
      unfold cntL
      rw [e, num_cut pre _ hr k h]
      simp
    unfold textL
    rw [hc]
    simp
  · have e : (textB s).take k = numB s.size ++ s.data.toList.take (k - (numB s.size).length) := by rw [textB, List.take_append, List.take_of_length_le h]
    have hn := num_back pre (s.data.toList.take (k - (numB s.size).length)) (s.size : Int) hr
    simp only [textB, List.length_append, hl] at hk
    have hc : cntL (pre ++ (textB s).take k) pre.length 0 100 = ((s.size : Int), (pre.length : Int) + ((numB s.size).length : Int), (0 : Int)) := by
      unfold cntL
      rw [e, hn]
      simp only
      rw [if_neg (by omega)]
    unfold textL
    rw [hc]
    simp only
    rw [if_neg (by simp), if_pos ?_]
    rw [e]
    simp only [List.length_append, List.length_take, hl]
    omega
end Go.Proofs.Ytligainhbdidgaa
