/- Commands written come back. No condition. -/
import Derived.Test.YtdcelfgdnepghaaRdC
namespace Go.Proofs.Ytdcelfgdnepghaa
open Go.RowKit
set_option linter.all false
set_option maxHeartbeats 4000000

theorem zig_zag (u : Int) (h : 0 ≤ u) : zig (zagI u) = u := by
  unfold zagI zig
  split <;> split <;> omega
theorem toNat_lit (n : Nat) (h : n < 256) : (UInt8.ofNat n).toNat = n := by
  simp
  omega
theorem pow7 (i : Nat) : 2 ^ (7 * (i + 1)) = 128 * 2 ^ (7 * i) := by rw [Nat.mul_add, Nat.pow_add, Nat.mul_comm]
theorem at9 (u : Nat) (h : u * 2 ^ (7 * 9) < 18446744073709551616) : u < 2 := by omega
/-- What is written is read. -/
theorem sev_numF : ∀ (f i u m : Nat) (l : List UInt8), i + f = 9 → (0 < i → 0 < u) → u * 2 ^ (7 * i) < 18446744073709551616 → sev i m (numF (f + 1) u ++ l) = .num (m + u * 2 ^ (7 * i)) (i + (numF (f + 1) u).length)
  | f, i, u, m, l, hf, hi, hu => by
      have h9 : i = 9 → u < 2 := fun e => by subst e; exact at9 u hu
      by_cases h : u < 128
      · rw [numF_last f u h]
        have ht := toNat_lit u (by omega)
        have e : sev i m ([UInt8.ofNat u] ++ l) = if (0 < i ∧ (UInt8.ofNat u).toNat = 0) ∨ (i = 9 ∧ 1 < (UInt8.ofNat u).toNat) then .form else if (UInt8.ofNat u).toNat < 128 then .num (m + (UInt8.ofNat u).toNat % 128 * 2 ^ (7 * i)) (i + 1) else sev (i + 1) (m + (UInt8.ofNat u).toNat % 128 * 2 ^ (7 * i)) l := rfl
        rw [e, ht, if_neg (by omega), if_pos h, Nat.mod_eq_of_lt h]
        rfl
      · rw [numF_step f u h]
        have ht := toNat_lit (u % 128 + 128) (by omega)
        have e : sev i m (UInt8.ofNat (u % 128 + 128) :: numF f (u / 128) ++ l) = if (0 < i ∧ (UInt8.ofNat (u % 128 + 128)).toNat = 0) ∨ (i = 9 ∧ 1 < (UInt8.ofNat (u % 128 + 128)).toNat) then .form else if (UInt8.ofNat (u % 128 + 128)).toNat < 128 then .num (m + (UInt8.ofNat (u % 128 + 128)).toNat % 128 * 2 ^ (7 * i)) (i + 1) else sev (i + 1) (m + (UInt8.ofNat (u % 128 + 128)).toNat % 128 * 2 ^ (7 * i)) (numF f (u / 128) ++ l) := rfl
        have hmul : u * 2 ^ (7 * i) = u % 128 * 2 ^ (7 * i) + u / 128 * 2 ^ (7 * (i + 1)) := by
          rw [pow7, ← Nat.mul_assoc, ← Nat.add_mul]
          congr 1
          omega
        match f, hf with
        | 0, hf =>
          have := h9 (by omega)
          omega
        | f + 1, hf =>
          rw [e, ht, if_neg (by omega), if_neg (by omega), sev_numF f (i + 1) (u / 128) _ l (by omega) (by omega) (by omega)]
          rw [show (u % 128 + 128) % 128 = u % 128 by omega, List.length_cons, hmul]
          congr 1 <;> omega
theorem sev_numB (n : Int) (h : r64 n) (l : List UInt8) : sev 0 0 (numB n ++ l) = .num (zig n).toNat (numB n).length := by
  have hz := zig_range h
  have := sev_numF 9 0 (zig n).toNat 0 l rfl (by omega) (by omega)
  rw [show numB n = numF (9 + 1) (zig n).toNat from rfl, this]
  simp
theorem numB_inj {a b : Int} (ha : r64 a) (hb : r64 b) (h : numB a = numB b) : a = b := by
  have h1 := sev_numB a ha []
  rw [h, sev_numB b hb []] at h1
  have h2 : (zig b).toNat = (zig a).toNat := by injection h1
  have h3 := zig_range ha
  have h4 := zig_range hb
  rw [← zag_zig a ha, ← zag_zig b hb, show zig a = zig b by omega]
theorem numF_mono : ∀ (f u v : Nat), u ≤ v → (numF f u).length ≤ (numF f v).length
  | 0, u, v, _ => by simp [numF]
  | f + 1, u, v, h => by
      by_cases hu : u < 128
      · rw [numF_last f u hu]
        by_cases hv : v < 128
        · rw [numF_last f v hv]; simp
        · rw [numF_step f v hv]; simp
      · rw [numF_step f u hu, numF_step f v (by omega)]
        have := numF_mono f (u / 128) (v / 128) (by omega)
        simpa using this
theorem numF_pos (f u : Nat) : 0 < (numF (f + 1) u).length := by
  by_cases hu : u < 128
  · rw [numF_last f u hu]; simp
  · rw [numF_step f u hu]; simp
theorem numB_mono {a b : Int} (h0 : 0 ≤ a) (h : a ≤ b) : (numB a).length ≤ (numB b).length := by
  refine numF_mono _ _ _ ?_
  unfold zig
  split <;> split <;> omega
/-- What is read was so written. -/
theorem sev_took : ∀ (l : List UInt8) (i m v k : Nat), i ≤ 9 → sev i m l = .num v k → ∃ u, v = m + u * 2 ^ (7 * i) ∧ i < k ∧ k ≤ i + l.length ∧ l.take (k - i) = numF (10 - i) u ∧ (0 < i → 0 < u)
  | [], i, m, v, k, _, h => by simp [sev] at h
  | c :: l, i, m, v, k, hi, h => by
      have hc : c.toNat < 256 := c.toNat_lt
      unfold sev at h
      split at h
      · cases h
      · rename_i hf
        split at h
        · rename_i h8
          cases h
          refine ⟨c.toNat, by rw [Nat.mod_eq_of_lt h8], by omega, by simp, ?_, by omega⟩
          rw [show 10 - i = (9 - i) + 1 by omega, numF_last _ _ h8]
          simp
        · rename_i h8
          have h9 : i ≠ 9 := by omega
          obtain ⟨u, h1, h2, h3, h4, h5⟩ := sev_took l (i + 1) _ v k (by omega) h
          have hu := h5 (by omega)
          refine ⟨c.toNat % 128 + 128 * u, ?_, by omega, by simp only [List.length_cons]; omega, ?_, by omega⟩
          · rw [h1, pow7, Nat.add_mul, Nat.mul_comm 128 u, Nat.mul_assoc]
            omega
          · rw [show 10 - i = (10 - (i + 1)) + 1 by omega, numF_step _ _ (by omega), show k - i = (k - (i + 1)) + 1 by omega, List.take_succ_cons, h4]
            have e1 : (c.toNat % 128 + 128 * u) / 128 = u := by omega
            have e2 : (c.toNat % 128 + 128 * u) % 128 + 128 = c.toNat := by omega
            rw [e1, e2]
            simp
theorem numB_took {l : List UInt8} {v k : Nat} (h : sev 0 0 l = .num v k) : l.take k = numB (zagI v) ∧ 0 < k ∧ k ≤ l.length := by
  obtain ⟨u, h1, h2, h3, h4, _⟩ := sev_took l 0 0 v k (by omega) h
  have : v = u := by simpa using h1
  subst this
  refine ⟨?_, h2, by omega⟩
  rw [numB, zig_zag _ (by omega)]
  simpa using h4
/-- How many sevens a number has. -/
def sevens : Nat → Nat → Int
  | 0, _ => 0
  | f + 1, u => if u < 128 then 1 else sevens f (u / 128) + 1

theorem drop_pre (pre l : List UInt8) : (pre ++ l).drop ((pre.length : Int)).toNat = l := by
  rw [show ((pre.length : Int)).toNat = pre.length by omega, List.drop_left]
theorem num_back (pre rest : List UInt8) (n : Int) (h : r64 n) : numL (pre ++ (numB n ++ rest)) pre.length 0 = (n, (pre.length : Int) + ((numB n).length : Int), (0 : Int)) := by
  unfold numL
  rw [if_neg (by decide), drop_pre, sev_numB n h]
  simp only
  rw [Int.toNat_of_nonneg (zig_range h).1, zag_zig n h]

theorem size_list (s : ByteArray) : s.data.toList.length = s.size := by rw [Array.length_toList]; rfl
theorem text_backM (pre rest : List UInt8) (s : ByteArray) (most : Int) (hs : (s.size : Int) ≤ most) (hm : most ≤ 100) : textL (pre ++ (textB s ++ rest)) pre.length 0 most = (s, (pre.length : Int) + ((textB s).length : Int), (0 : Int)) := by
  have hn := num_back pre (s.data.toList ++ rest) (s.size : Int) (by unfold r64; omega)
  have hl := size_list s
  have hc : cntL (pre ++ (textB s ++ rest)) pre.length 0 most = ((s.size : Int), (pre.length : Int) + ((numB s.size).length : Int), (0 : Int)) := by
    unfold cntL textB
    rw [List.append_assoc, hn]
    simp only
    rw [if_neg (by omega)]
  unfold textL
  rw [hc]
  simp only
  rw [if_neg (by simp), if_neg (by simp only [textB, List.length_append, hl]; omega)]
  have hd : ((pre ++ (textB s ++ rest)).drop ((pre.length : Int) + (numB s.size).length).toNat).take ((s.size : Int)).toNat = s.data.toList := by
    rw [show ((pre.length : Int) + ((numB s.size).length : Int)).toNat = (pre ++ numB s.size).length by simp only [List.length_append]; omega, textB, List.append_assoc, ← List.append_assoc pre, List.drop_left, show ((s.size : Int)).toNat = s.data.toList.length by omega, List.take_left]
  rw [hd]
  simp only [textB, List.length_append, hl]
  refine Prod.ext (by simp) (Prod.ext ?_ rfl)
  simp only
  omega
theorem numR_back {bs : List UInt8} (pre rest : List UInt8) (n : Int) {a : Int} (h : r64 n) (e : bs = pre ++ (numB n ++ rest)) (ha : a = pre.length) : numR (bytesP bs) a 0 = (n, ((pre ++ numB n).length : Int), 0) := by
  subst e ha
  unfold numR
  rw [bytesOf_bytesP, num_back pre rest n h, List.length_append]
  refine Prod.ext rfl (Prod.ext ?_ rfl)
  simp only; omega
theorem textR_back {bs : List UInt8} (pre rest : List UInt8) (s : ByteArray) (most : Int) {a : Int} (hs : (s.size : Int) ≤ most) (hm : most ≤ 100) (e : bs = pre ++ (textB s ++ rest)) (ha : a = pre.length) : textR (bytesP bs) a 0 most = (s, ((pre ++ textB s).length : Int), 0) := by
  subst e ha
  unfold textR
  rw [bytesOf_bytesP, text_backM pre rest s most hs hm, List.length_append]
  refine Prod.ext rfl (Prod.ext ?_ rfl)
  simp only; omega
theorem right_cases {c : Cmd} (h : rightC c = true) : c = .zero ∨ (1 ≤ c.kind ∧ c.kind ≤ 5 ∧ c = bare c ∧ c.key.size ≤ 16 ∧ c.fin.size ≤ 16 ∧ c.old.size ≤ 64 ∧ c.val.size ≤ 64) := by
  simp only [rightC, within, Bool.or_eq_true, Bool.and_eq_true, decide_eq_true_eq] at h
  rcases h with h | h
  · exact .inl h
  · exact .inr ⟨by omega, by omega, by grind, by grind, by grind, by grind, by grind⟩
theorem putB_back (pre rest : List UInt8) (c : Cmd) (hr : rightC c = true) (hk : okC c) : getX (bytesP (pre ++ (putB c ++ rest))) pre.length 0 = (c, ((pre ++ putB c).length : Int), 0) := by
  have key : getB (bytesP (pre ++ (putB c ++ rest))) pre.length 0 = (c, ((pre ++ putB c).length : Int), 0) := by
    obtain ⟨k1, k2, k3, k4, k5, k6, k7⟩ := hk
    rcases right_cases hr with h | ⟨h1, h2, h3, h4, h5, h6, h7⟩
    · subst h
      have e1 := numR_back pre rest 0 (bs := pre ++ (putB .zero ++ rest)) (a := pre.length) k1 rfl rfl
      unfold getB
      simp only
      rw [e1]
      simp only
      rfl
    · obtain ⟨kind, client, seq, key, fin, old, val⟩ := c
      simp only at *
      obtain ⟨B, hB⟩ : ∃ B, B = pre ++ (putB ⟨kind, client, seq, key, fin, old, val⟩ ++ rest) := ⟨_, rfl⟩
      rw [← hB]
      simp only [putB, if_neg (show ¬ kind = 0 by omega), List.append_assoc] at hB ⊢
      obtain ⟨T, hT⟩ : ∃ T, T = (if kind = 2 then textB val else if kind = 4 then textB old ++ textB val else if kind = 5 then textB fin else []) := ⟨_, rfl⟩
      rw [← hT] at hB ⊢
      have e1 := numR_back pre (numB client ++ (numB seq ++ (textB key ++ (T ++ rest)))) kind (bs := B) (a := pre.length) k1 hB rfl
      have e2 := numR_back (pre ++ numB kind) (numB seq ++ (textB key ++ (T ++ rest))) client (bs := B) k2 (by rw [hB]; simp only [List.append_assoc]) rfl
      have e3 := numR_back ((pre ++ numB kind) ++ numB client) (textB key ++ (T ++ rest)) seq (bs := B) k3 (by rw [hB]; simp only [List.append_assoc]) rfl
      have e4 := textR_back (((pre ++ numB kind) ++ numB client) ++ numB seq) (T ++ rest) key 16 (bs := B) (by omega) (by decide) (by rw [hB]; simp only [List.append_assoc]) rfl
      have ln : ∀ l m : List UInt8, ((l ++ m).length : Int) = l.length + m.length := fun l m => by rw [List.length_append]; omega
      unfold getB
      simp only [e1, e2, e3, e4, if_neg (show ¬ kind = 0 by omega)]
      rcases (by omega : kind = 1 ∨ kind = 2 ∨ kind = 3 ∨ kind = 4 ∨ kind = 5) with e | e | e | e | e
      · subst e
        subst hT
        simp only [bare, Cmd.mk.injEq] at h3
        simp only [ln, List.nil_append, List.length_nil]
        simp at h3
        refine Prod.ext ?_ (Prod.ext ?_ rfl)
        · simp [h3.1, h3.2.1, h3.2.2]
        · first | (simp; done) | (simp; omega)
      · subst e
        have hT2 : T = textB val := hT
        rw [hT2] at hB
        simp only [hT2]
        have e5 := textR_back ((((pre ++ numB 2) ++ numB client) ++ numB seq) ++ textB key) rest val 64 (bs := B) (by omega) (by decide) (by rw [hB]; simp only [List.append_assoc]) rfl
        simp only [bare, Cmd.mk.injEq] at h3
        simp at h3
        simp only [Int.reduceEq, ↓reduceIte, e5]
        refine Prod.ext ?_ (Prod.ext ?_ rfl)
        · simp [h3]
        · first | (simp [ln]; done) | (simp [ln]; omega) | (simp only [ln]; omega)
      · subst e
        subst hT
        simp only [bare, Cmd.mk.injEq] at h3
        simp at h3
        refine Prod.ext ?_ (Prod.ext ?_ rfl)
        · simp [h3.1, h3.2.1, h3.2.2]
        · first | (simp [ln]; done) | (simp [ln]; omega) | (simp only [ln]; omega)
      · subst e
        have hT2 : T = textB old ++ textB val := hT
        rw [hT2] at hB
        simp only [hT2]
        have e5 := textR_back ((((pre ++ numB 4) ++ numB client) ++ numB seq) ++ textB key) (textB val ++ rest) old 64 (bs := B) (by omega) (by decide) (by rw [hB]; simp only [List.append_assoc]) rfl
        have e6 := textR_back (((((pre ++ numB 4) ++ numB client) ++ numB seq) ++ textB key) ++ textB old) rest val 64 (bs := B) (by omega) (by decide) (by rw [hB]; simp only [List.append_assoc]) rfl
        simp only [bare, Cmd.mk.injEq] at h3
        simp at h3
        simp only [Int.reduceEq, ↓reduceIte, e5, e6]
        refine Prod.ext ?_ (Prod.ext ?_ rfl)
        · simp [h3]
        · first | (simp [ln]; done) | (simp [ln]; omega) | (simp only [ln]; omega)
      · subst e
        have hT2 : T = textB fin := hT
        rw [hT2] at hB
        simp only [hT2]
        have e5 := textR_back ((((pre ++ numB 5) ++ numB client) ++ numB seq) ++ textB key) rest fin 16 (bs := B) (by omega) (by decide) (by rw [hB]; simp only [List.append_assoc]) rfl
        simp only [bare, Cmd.mk.injEq] at h3
        simp at h3
        simp only [Int.reduceEq, ↓reduceIte, e5]
        refine Prod.ext ?_ (Prod.ext ?_ rfl)
        · simp [h3]
        · first | (simp [ln]; done) | (simp [ln]; omega) | (simp only [ln]; omega)
  unfold getX
  simp only
  rw [key]
  simp only
  rw [if_pos trivial, if_pos hr]
theorem putB_pos (c : Cmd) : 0 < (putB c).length := by
  have : 0 < (numB c.kind).length := numF_pos 9 _
  simp only [putB, List.length_append]
  omega

end Go.Proofs.Ytdcelfgdnepghaa
