/- Ballots, attributes and cells come back. No condition. -/
import Derived.Test.YtbhapclaochcnaaLeZ
namespace Go.Proofs.Ytbhapclaochcnaa
open Go.RowKit
set_option linter.all false
set_option maxHeartbeats 4000000

theorem zig_zag (u : Int) (h : 0 ≤ u) : zig (zagI u) = u := by
  unfold zagI zig
  split <;> split <;> omega
theorem toNat_lit (n : Nat) (h : n < 256) : (UInt8.ofNat n).toNat = n := by
  simp
  omega
theorem pow7 (i : Nat) : 2 ^ (7 * (i + 1)) = 128 * 2 ^ (7 * i) := by rw [Nat.mul_add, Nat.pow_add, Nat.mul_comm]
theorem at9 (u : Nat) (h : u * 2 ^ (7 * 9) < 18446744073709551616) : u < 2 := by omega
/-- What is written is read. -/
theorem sev_numF : ∀ (f i u m : Nat) (l : List UInt8), i + f = 9 → (0 < i → 0 < u) → u * 2 ^ (7 * i) < 18446744073709551616 → sev i m (numF (f + 1) u ++ l) = .num (m + u * 2 ^ (7 * i)) (i + (numF (f + 1) u).length)
  | f, i, u, m, l, hf, hi, hu => by
      have h9 : i = 9 → u < 2 := fun e => by subst e; exact at9 u hu
      by_cases h : u < 128
      · rw [numF_last f u h]
        have ht := toNat_lit u (by omega)
        have e : sev i m ([UInt8.ofNat u] ++ l) = if (0 < i ∧ (UInt8.ofNat u).toNat = 0) ∨ (i = 9 ∧ 1 < (UInt8.ofNat u).toNat) then .form else if (UInt8.ofNat u).toNat < 128 then .num (m + (UInt8.ofNat u).toNat % 128 * 2 ^ (7 * i)) (i + 1) else sev (i + 1) (m + (UInt8.ofNat u).toNat % 128 * 2 ^ (7 * i)) l := rfl
        rw [e, ht, if_neg (by omega), if_pos h, Nat.mod_eq_of_lt h]
        rfl
      · rw [numF_step f u h]
        have ht := toNat_lit (u % 128 + 128) (by omega)
        have e : sev i m (UInt8.ofNat (u % 128 + 128) :: numF f (u / 128) ++ l) = if (0 < i ∧ (UInt8.ofNat (u % 128 + 128)).toNat = 0) ∨ (i = 9 ∧ 1 < (UInt8.ofNat (u % 128 + 128)).toNat) then .form else if (UInt8.ofNat (u % 128 + 128)).toNat < 128 then .num (m + (UInt8.ofNat (u % 128 + 128)).toNat % 128 * 2 ^ (7 * i)) (i + 1) else sev (i + 1) (m + (UInt8.ofNat (u % 128 + 128)).toNat % 128 * 2 ^ (7 * i)) (numF f (u / 128) ++ l) := rfl
        have hmul : u * 2 ^ (7 * i) = u % 128 * 2 ^ (7 * i) + u / 128 * 2 ^ (7 * (i + 1)) := by
          rw [pow7, ← Nat.mul_assoc, ← Nat.add_mul]
          congr 1
          omega
        match f, hf with
        | 0, hf =>
          have := h9 (by omega)
          omega
        | f + 1, hf =>
          rw [e, ht, if_neg (by omega), if_neg (by omega), sev_numF f (i + 1) (u / 128) _ l (by omega) (by omega) (by omega)]
          rw [show (u % 128 + 128) % 128 = u % 128 by omega, List.length_cons, hmul]
          congr 1 <;> omega
theorem sev_numB (n : Int) (h : r64 n) (l : List UInt8) : sev 0 0 (numB n ++ l) = .num (zig n).toNat (numB n).length := by
  have hz := zig_range h
  have := sev_numF 9 0 (zig n).toNat 0 l rfl (by omega) (by omega)
  rw [show numB n = numF (9 + 1) (zig n).toNat from rfl, this]
  simp
theorem numB_inj {a b : Int} (ha : r64 a) (hb : r64 b) (h : numB a = numB b) : a = b := by
  have h1 := sev_numB a ha []
  rw [h, sev_numB b hb []] at h1
  have h2 : (zig b).toNat = (zig a).toNat := by injection h1
  have h3 := zig_range ha
  have h4 := zig_range hb
  rw [← zag_zig a ha, ← zag_zig b hb, show zig a = zig b by omega]
theorem numF_mono : ∀ (f u v : Nat), u ≤ v → (numF f u).length ≤ (numF f v).length
  | 0, u, v, _ => by simp [numF]
  | f + 1, u, v, h => by
      by_cases hu : u < 128
      · rw [numF_last f u hu]
        by_cases hv : v < 128
        · rw [numF_last f v hv]; simp
        · rw [numF_step f v hv]; simp
      · rw [numF_step f u hu, numF_step f v (by omega)]
        have := numF_mono f (u / 128) (v / 128) (by omega)
        simpa using this
theorem numF_pos (f u : Nat) : 0 < (numF (f + 1) u).length := by
  by_cases hu : u < 128
  · rw [numF_last f u hu]; simp
  · rw [numF_step f u hu]; simp
theorem numB_mono {a b : Int} (h0 : 0 ≤ a) (h : a ≤ b) : (numB a).length ≤ (numB b).length := by
  refine numF_mono _ _ _ ?_
  unfold zig
  split <;> split <;> omega
/-- What is read was so written. -/
theorem sev_took : ∀ (l : List UInt8) (i m v k : Nat), i ≤ 9 → sev i m l = .num v k → ∃ u, v = m + u * 2 ^ (7 * i) ∧ i < k ∧ k ≤ i + l.length ∧ l.take (k - i) = numF (10 - i) u ∧ (0 < i → 0 < u)
  | [], i, m, v, k, _, h => by simp [sev] at h
  | c :: l, i, m, v, k, hi, h => by
      have hc : c.toNat < 256 := c.toNat_lt
      unfold sev at h
      split at h
      · cases h
      · rename_i hf
        split at h
        · rename_i h8
          cases h
          refine ⟨c.toNat, by rw [Nat.mod_eq_of_lt h8], by omega, by simp, ?_, by omega⟩
          rw [show 10 - i = (9 - i) + 1 by omega, numF_last _ _ h8]
          simp
        · rename_i h8
          have h9 : i ≠ 9 := by omega
          obtain ⟨u, h1, h2, h3, h4, h5⟩ := sev_took l (i + 1) _ v k (by omega) h
          have hu := h5 (by omega)
          refine ⟨c.toNat % 128 + 128 * u, ?_, by omega, by simp only [List.length_cons]; omega, ?_, by omega⟩
          · rw [h1, pow7, Nat.add_mul, Nat.mul_comm 128 u, Nat.mul_assoc]
            omega
          · rw [show 10 - i = (10 - (i + 1)) + 1 by omega, numF_step _ _ (by omega), show k - i = (k - (i + 1)) + 1 by omega, List.take_succ_cons, h4]
            have e1 : (c.toNat % 128 + 128 * u) / 128 = u := by omega
            have e2 : (c.toNat % 128 + 128 * u) % 128 + 128 = c.toNat := by omega
            rw [e1, e2]
            simp
theorem numB_took {l : List UInt8} {v k : Nat} (h : sev 0 0 l = .num v k) : l.take k = numB (zagI v) ∧ 0 < k ∧ k ≤ l.length := by
  obtain ⟨u, h1, h2, h3, h4, _⟩ := sev_took l 0 0 v k (by omega) h
  have : v = u := by simpa using h1
  subst this
  refine ⟨?_, h2, by omega⟩
  rw [numB, zig_zag _ (by omega)]
  simpa using h4
/-- How many sevens a number has. -/
def sevens : Nat → Nat → Int
  | 0, _ => 0
  | f + 1, u => if u < 128 then 1 else sevens f (u / 128) + 1

theorem drop_pre (pre l : List UInt8) : (pre ++ l).drop ((pre.length : Int)).toNat = l := by
  rw [show ((pre.length : Int)).toNat = pre.length by omega, List.drop_left]
theorem num_back (pre rest : List UInt8) (n : Int) (h : r64 n) : numL (pre ++ (numB n ++ rest)) pre.length 0 = (n, (pre.length : Int) + ((numB n).length : Int), (0 : Int)) := by
  unfold numL
  rw [if_neg (by decide), drop_pre, sev_numB n h]
  simp only
  rw [Int.toNat_of_nonneg (zig_range h).1, zag_zig n h]

theorem flag_back (pre rest : List UInt8) (f : Bool) : flagL (pre ++ ([if f then 1 else 0] ++ rest)) pre.length 0 = (f, (pre.length : Int) + 1, (0 : Int)) := by
  unfold flagL
  rw [if_neg (by decide), show ((pre.length : Int)).toNat = pre.length by omega]
  have e : (pre ++ ([if f then (1 : UInt8) else 0] ++ rest))[pre.length]? = some (if f then 1 else 0) := by simp
  rw [e]
  cases f <;> simp

theorem size_list (s : ByteArray) : s.data.toList.length = s.size := by rw [Array.length_toList]; rfl
theorem text_backM (pre rest : List UInt8) (s : ByteArray) (most : Int) (hs : (s.size : Int) ≤ most) (hm : most ≤ 100) : textL (pre ++ (textB s ++ rest)) pre.length 0 most = (s, (pre.length : Int) + ((textB s).length : Int), (0 : Int)) := by
  have hn := num_back pre (s.data.toList ++ rest) (s.size : Int) (by unfold r64; omega)
  have hl := size_list s
  have hc : cntL (pre ++ (textB s ++ rest)) pre.length 0 most = ((s.size : Int), (pre.length : Int) + ((numB s.size).length : Int), (0 : Int)) := by
    unfold cntL textB
    rw [List.append_assoc, hn]
    simp only
    rw [if_neg (by omega)]
  unfold textL
  rw [hc]
  simp only
  rw [if_neg (by simp), if_neg (by simp only [textB, List.length_append, hl]; omega)]
  have hd : ((pre ++ (textB s ++ rest)).drop ((pre.length : Int) + (numB s.size).length).toNat).take ((s.size : Int)).toNat = s.data.toList := by
    rw [show ((pre.length : Int) + ((numB s.size).length : Int)).toNat = (pre ++ numB s.size).length by simp only [List.length_append]; omega, textB, List.append_assoc, ← List.append_assoc pre, List.drop_left, show ((s.size : Int)).toNat = s.data.toList.length by omega, List.take_left]
  rw [hd]
  simp only [textB, List.length_append, hl]
  refine Prod.ext (by simp) (Prod.ext ?_ rfl)
  simp only
  omega
theorem numR_back {bs : List UInt8} (pre rest : List UInt8) (n : Int) {a : Int} (h : r64 n) (e : bs = pre ++ (numB n ++ rest)) (ha : a = pre.length) : numR (bytesP bs) a 0 = (n, ((pre ++ numB n).length : Int), 0) := by
  subst e ha
  unfold numR
  rw [bytesOf_bytesP, num_back pre rest n h, List.length_append]
  refine Prod.ext rfl (Prod.ext ?_ rfl)
  simp only; omega
theorem textR_back {bs : List UInt8} (pre rest : List UInt8) (s : ByteArray) (most : Int) {a : Int} (hs : (s.size : Int) ≤ most) (hm : most ≤ 100) (e : bs = pre ++ (textB s ++ rest)) (ha : a = pre.length) : textR (bytesP bs) a 0 most = (s, ((pre ++ textB s).length : Int), 0) := by
  subst e ha
  unfold textR
  rw [bytesOf_bytesP, text_backM pre rest s most hs hm, List.length_append]
  refine Prod.ext rfl (Prod.ext ?_ rfl)
  simp only; omega

theorem putB_back (pre rest : List UInt8) (c : Cmd) (hr : rightC c = true) (hk : okC c) : getX (bytesP (pre ++ (putB c ++ rest))) pre.length 0 = (c, ((pre ++ putB c).length : Int), 0) := by
  have key : getB (bytesP (pre ++ (putB c ++ rest))) pre.length 0 = (c, ((pre ++ putB c).length : Int), 0) := by
    obtain ⟨k1, k2, k3, k4, k5, k6, k7⟩ := hk
    rcases right_cases hr with h | ⟨h1, h2, h3, h4, h5, h6, h7⟩
    · subst h
      have e1 := numR_back pre rest 0 (bs := pre ++ (putB .zero ++ rest)) (a := pre.length) k1 rfl rfl
      unfold getB
      simp only
      rw [e1]
      simp only
      rfl
    · obtain ⟨kind, client, seq, key, fin, old, val⟩ := c
      simp only at *
      obtain ⟨B, hB⟩ : ∃ B, B = pre ++ (putB ⟨kind, client, seq, key, fin, old, val⟩ ++ rest) := ⟨_, rfl⟩
      rw [← hB]
      simp only [putB, if_neg (show ¬ kind = 0 by omega), List.append_assoc] at hB ⊢
      obtain ⟨T, hT⟩ : ∃ T, T = (if kind = 2 then textB val else if kind = 4 then textB old ++ textB val else if kind = 5 then textB fin else []) := ⟨_, rfl⟩
      rw [← hT] at hB ⊢
      have e1 := numR_back pre (numB client ++ (numB seq ++ (textB key ++ (T ++ rest)))) kind (bs := B) (a := pre.length) k1 hB rfl
      have e2 := numR_back (pre ++ numB kind) (numB seq ++ (textB key ++ (T ++ rest))) client (bs := B) k2 (by rw [hB]; simp only [List.append_assoc]) rfl
      have e3 := numR_back ((pre ++ numB kind) ++ numB client) (textB key ++ (T ++ rest)) seq (bs := B) k3 (by rw [hB]; simp only [List.append_assoc]) rfl
      have e4 := textR_back (((pre ++ numB kind) ++ numB client) ++ numB seq) (T ++ rest) key 16 (bs := B) (by omega) (by decide) (by rw [hB]; simp only [List.append_assoc]) rfl
      have ln : ∀ l m : List UInt8, ((l ++ m).length : Int) = l.length + m.length := fun l m => by rw [List.length_append]; omega
      unfold getB
      simp only [e1, e2, e3, e4, if_neg (show ¬ kind = 0 by omega)]
      rcases (by omega : kind = 1 ∨ kind = 2 ∨ kind = 3 ∨ kind = 4 ∨ kind = 5) with e | e | e | e | e
      · subst e
        subst hT
        simp only [bare, Cmd.mk.injEq] at h3
        simp only [ln, List.nil_append, List.length_nil]
        simp at h3
        refine Prod.ext ?_ (Prod.ext ?_ rfl)
        · simp [h3.1, h3.2.1, h3.2.2]
        · first | (simp; done) | (simp; omega)
      · subst e
        have hT2 : T = textB val := hT
        rw [hT2] at hB
        simp only [hT2]
        have e5 := textR_back ((((pre ++ numB 2) ++ numB client) ++ numB seq) ++ textB key) rest val 64 (bs := B) (by omega) (by decide) (by rw [hB]; simp only [List.append_assoc]) rfl
        simp only [bare, Cmd.mk.injEq] at h3
        simp at h3
        simp only [Int.reduceEq, ↓reduceIte, e5]
        refine Prod.ext ?_ (Prod.ext ?_ rfl)
        · simp [h3]
        · first | (simp [ln]; done) | (simp [ln]; omega) | (simp only [ln]; omega)
      · subst e
        subst hT
        simp only [bare, Cmd.mk.injEq] at h3
        simp at h3
        refine Prod.ext ?_ (Prod.ext ?_ rfl)
        · simp [h3.1, h3.2.1, h3.2.2]
        · first | (simp [ln]; done) | (simp [ln]; omega) | (simp only [ln]; omega)
      · subst e
        have hT2 : T = textB old ++ textB val := hT
        rw [hT2] at hB
        simp only [hT2]
        have e5 := textR_back ((((pre ++ numB 4) ++ numB client) ++ numB seq) ++ textB key) (textB val ++ rest) old 64 (bs := B) (by omega) (by decide) (by rw [hB]; simp only [List.append_assoc]) rfl
        have e6 := textR_back (((((pre ++ numB 4) ++ numB client) ++ numB seq) ++ textB key) ++ textB old) rest val 64 (bs := B) (by omega) (by decide) (by rw [hB]; simp only [List.append_assoc]) rfl
        simp only [bare, Cmd.mk.injEq] at h3
        simp at h3
        simp only [Int.reduceEq, ↓reduceIte, e5, e6]
        refine Prod.ext ?_ (Prod.ext ?_ rfl)
        · simp [h3]
        · first | (simp [ln]; done) | (simp [ln]; omega) | (simp only [ln]; omega)
      · subst e
        have hT2 : T = textB fin := hT
        rw [hT2] at hB
        simp only [hT2]
        have e5 := textR_back ((((pre ++ numB 5) ++ numB client) ++ numB seq) ++ textB key) rest fin 16 (bs := B) (by omega) (by decide) (by rw [hB]; simp only [List.append_assoc]) rfl
        simp only [bare, Cmd.mk.injEq] at h3
        simp at h3
        simp only [Int.reduceEq, ↓reduceIte, e5]
        refine Prod.ext ?_ (Prod.ext ?_ rfl)
        · simp [h3]
        · first | (simp [ln]; done) | (simp [ln]; omega) | (simp only [ln]; omega)
  unfold getX
  simp only
  rw [key]
  simp only
  rw [if_pos trivial, if_pos hr]
theorem putB_pos (c : Cmd) : 0 < (putB c).length := by
  have : 0 < (numB c.kind).length := numF_pos 9 _
  simp only [putB, List.length_append]
  omega

theorem flagR_back {bs : List UInt8} (pre rest : List UInt8) (f : Bool) {a : Int} (e : bs = pre ++ ([if f then 1 else 0] ++ rest)) (ha : a = pre.length) : flagR (bytesP bs) a 0 = (f, ((pre ++ [if f then (1 : UInt8) else 0]).length : Int), 0) := by
  subst e ha
  unfold flagR
  rw [bytesOf_bytesP, flag_back pre rest f, List.length_append]
  refine Prod.ext rfl (Prod.ext ?_ rfl)
  simp
theorem bal_back {bs : List UInt8} (pre rest : List UInt8) (b : Ballot) {a : Int} (h : rBal b) (e : bs = pre ++ (ballotB b ++ rest)) (ha : a = pre.length) : getBalX (bytesP bs) a 0 = (b, ((pre ++ ballotB b).length : Int), 0) := by
  have e1 := numR_back (bs := bs) pre (numB b.replica ++ rest) b.epoch (a := a) h.1 (by rw [e, ballotB, List.append_assoc]) ha
  have e2 := numR_back (bs := bs) (pre ++ numB b.epoch) rest b.replica h.2 (by rw [e, ballotB]; simp only [List.append_assoc]) rfl
  unfold getBalX
  simp only [e1, e2]
  refine Prod.ext rfl (Prod.ext ?_ rfl)
  simp only [ballotB, List.append_assoc]
theorem putD_back {bs : List UInt8} (pre rest : List UInt8) (x : Attr) {a : Int} (h : rAttr x) (hr : rightA x = true) (e : bs = pre ++ (putD x ++ rest)) (ha : a = pre.length) : getA (bytesP bs) a 0 = (x, ((pre ++ putD x).length : Int), 0) := by
  obtain ⟨h0, h1, h2, h3, h4, h5, h6, h7⟩ := h
  have E : bs = pre ++ (numB x.seq ++ (numB x.d0 ++ (numB x.d1 ++ (numB x.d2 ++ (numB x.d3 ++ (numB x.d4 ++ (numB x.d5 ++ (numB x.d6 ++ rest)))))))) := by rw [e, putD]; simp only [List.append_assoc]
  have e0 := numR_back (bs := bs) pre _ x.seq (a := a) h0 E ha
  have e1 := numR_back (bs := bs) (pre ++ numB x.seq) _ x.d0 h1 (by rw [E]; simp only [List.append_assoc]; rfl) rfl
  have e2 := numR_back (bs := bs) ((pre ++ numB x.seq) ++ numB x.d0) _ x.d1 h2 (by rw [E]; simp only [List.append_assoc]; rfl) rfl
  have e3 := numR_back (bs := bs) (((pre ++ numB x.seq) ++ numB x.d0) ++ numB x.d1) _ x.d2 h3 (by rw [E]; simp only [List.append_assoc]; rfl) rfl
  have e4 := numR_back (bs := bs) ((((pre ++ numB x.seq) ++ numB x.d0) ++ numB x.d1) ++ numB x.d2) _ x.d3 h4 (by rw [E]; simp only [List.append_assoc]; rfl) rfl
  have e5 := numR_back (bs := bs) (((((pre ++ numB x.seq) ++ numB x.d0) ++ numB x.d1) ++ numB x.d2) ++ numB x.d3) _ x.d4 h5 (by rw [E]; simp only [List.append_assoc]; rfl) rfl
  have e6 := numR_back (bs := bs) ((((((pre ++ numB x.seq) ++ numB x.d0) ++ numB x.d1) ++ numB x.d2) ++ numB x.d3) ++ numB x.d4) _ x.d5 h6 (by rw [E]; simp only [List.append_assoc]; rfl) rfl
  have e7 := numR_back (bs := bs) (((((((pre ++ numB x.seq) ++ numB x.d0) ++ numB x.d1) ++ numB x.d2) ++ numB x.d3) ++ numB x.d4) ++ numB x.d5) rest x.d6 h7 (by rw [E]; simp only [List.append_assoc]) rfl
  unfold getA getN
  simp only [e0, e1, e2, e3, e4, e5, e6, e7]
  rw [if_pos trivial, if_pos hr]
  refine Prod.ext rfl (Prod.ext ?_ rfl)
  simp only [putD, List.append_assoc]
/-- A right cell of which nothing is known tells what is promised, alone. -/
theorem cell_unknown {c : Cell} (h : rightCell c = true) (q : c.status = 0) : c = promC 0 c.pe c.pr := by
  have ho : cellOnly c = true := by
    unfold rightCell at h
    rw [decide_eq_true q] at h
    revert h
    generalize (bif (bif (bif (bif decide (c.status < 0) then true else decide (3 < c.status)) then true else !rightB c.prom) then true else !rightB c.voted) then true else belowB c.prom c.voted) = p
    generalize (bif c.same then (bif !decide (c.status = 1) then true else !(decide (c.ve = 0) && (decide (c.vr = 0) && true))) else false) = r
    cases p <;> cases r <;> cases cellOnly c <;> simp
  unfold cellOnly at ho
  simp only [Bool.and_eq_true, decide_eq_true_eq] at ho
  cases c
  simp only [promC, Cell.mk.injEq] at *
  grind
theorem cell_back {bs : List UInt8} (pre rest : List UInt8) (c : Cell) {a : Int} (hr : rightCell c = true) (hk : okCell c) (e : bs = pre ++ (cellB c ++ rest)) (ha : a = pre.length) : getCellX (bytesP bs) a 0 = (c, ((pre ++ cellB c).length : Int), 0) := by
  obtain ⟨k0, k1, k2, k3, k4⟩ := hk
  have key : getCellB (bytesP bs) a 0 = (c, ((pre ++ cellB c).length : Int), 0) := by
    by_cases q : c.status = 0
    · have hc := cell_unknown hr q
      have E : bs = pre ++ (numB c.status ++ (ballotB c.prom ++ rest)) := by rw [e, cellB, if_pos q]; simp only [List.append_assoc, List.append_nil]
      have e1 := numR_back (bs := bs) pre _ c.status (a := a) k0 E ha
      have e2 := bal_back (bs := bs) (pre ++ numB c.status) rest c.prom k1 (by rw [E]; simp only [List.append_assoc]) rfl
      unfold getCellB
      simp only [e1, e2]
      rw [if_pos q]
      refine Prod.ext ?_ (Prod.ext ?_ rfl)
      · exact hc.symm
      · simp only [cellB, if_pos q, List.append_assoc, List.append_nil]
    · have E : bs = pre ++ (numB c.status ++ (ballotB c.prom ++ (ballotB c.voted ++ (putB c.cmd ++ (putD c.attr ++ ([if c.same then 1 else 0] ++ rest)))))) := by rw [e, cellB, if_neg q]; simp only [List.append_assoc]
      have hp := rightCell_parts hr
      have e1 := numR_back (bs := bs) pre _ c.status (a := a) k0 E ha
      have e2 := bal_back (bs := bs) (pre ++ numB c.status) _ c.prom k1 (by rw [E]; simp only [List.append_assoc]; rfl) rfl
      have e3 := bal_back (bs := bs) ((pre ++ numB c.status) ++ ballotB c.prom) _ c.voted k2 (by rw [E]; simp only [List.append_assoc]; rfl) rfl
      have e4 := putB_back (((pre ++ numB c.status) ++ ballotB c.prom) ++ ballotB c.voted) (putD c.attr ++ ([if c.same then 1 else 0] ++ rest)) c.cmd hp.1 k3
      rw [show (((pre ++ numB c.status) ++ ballotB c.prom) ++ ballotB c.voted) ++ (putB c.cmd ++ (putD c.attr ++ ([if c.same then 1 else 0] ++ rest))) = bs by rw [E]; simp only [List.append_assoc]] at e4
      have e5 := putD_back (bs := bs) ((((pre ++ numB c.status) ++ ballotB c.prom) ++ ballotB c.voted) ++ putB c.cmd) _ c.attr k4 hp.2 (by rw [E]; simp only [List.append_assoc]; rfl) rfl
      have e6 := flagR_back (bs := bs) (((((pre ++ numB c.status) ++ ballotB c.prom) ++ ballotB c.voted) ++ putB c.cmd) ++ putD c.attr) rest c.same (by rw [E]; simp only [List.append_assoc]) rfl
      unfold getCellB
      simp only [e1, e2, e3, e4, e5, e6]
      rw [if_neg q]
      refine Prod.ext rfl (Prod.ext ?_ rfl)
      simp only [cellB, if_neg q, List.append_assoc]
  unfold getCellX
  simp only [key]
  rw [if_pos trivial, if_pos hr]

end Go.Proofs.Ytbhapclaochcnaa
namespace Go.Proofs.Ytbhapclaochcnaa
open Go.RowKit
set_option linter.all false
set_option maxHeartbeats 4000000
def sizeL (m : Letter) : Nat := m.data.size + m.mkey.size + m.mfin.size + m.mold.size + m.mval.size + m.lckey.size + m.lcfin.size + m.lcold.size + m.lcval.size
def lightL (m : Letter) : Bool := decide ((sizeL m : Int) < 5000)

structure FsL9 where
  light : Letter → Bool
  okLet : Letter → Prop
def FsL90 : FsL9 where
  light := lightL
  okLet := okLet
set_option maxRecDepth 100000 in
theorem v_light (m : Letter) (hp0 : FsL90.okLet m) : FnV Try.prog 12 [Letter.D m] (boolD ((lightL m))) := by
  obtain ⟨m_lkind, m_src, m_dst, m_irep, m_islot, m_be, m_br, m_mkind, m_mclient, m_mseq, m_mkey, m_mfin, m_mold, m_mval, m_tseq, m_td0, m_td1, m_td2, m_td3, m_td4, m_td5, m_td6, m_lstatus, m_lpe, m_lpr, m_lve, m_lvr, m_lckind, m_lcclient, m_lcseq, m_lckey, m_lcfin, m_lcold, m_lcval, m_laseq, m_lad0, m_lad1, m_lad2, m_lad3, m_lad4, m_lad5, m_lad6, m_lsame, m_fd0, m_fd1, m_fd2, m_fd3, m_fd4, m_fd5, m_fd6, m_data⟩ := m
  refine FnD_cbv (T := fun _ => tabY [5003, 18] []) (H := fun _ => []) (tabY_ok _ _) noK_ok follows_mixed Try.func12 rfl Try.ntmps12 (by simp) fun A X W hA hX hW => ?_
  cbv
  have l0 : A.cmp .lss 0 2 = true := by subst hA; rfl
  cbv at l0
  have l1 : A.cmp .lss 1 2 = true := by subst hA; rfl
  cbv at l1
  have l2 : A.cmp .lss 2 2 = false := by subst hA; rfl
  cbv at l2
  have b0 : A.bin .add .i64 0 1 = 1 := by subst hA; rfl
  cbv at b0
  have b1 : A.bin .add .i64 1 1 = 2 := by subst hA; rfl
  cbv at b1
  have o0_0 : A.off 0 0 1 = 0 := by subst hA; rfl
  cbv at o0_0
  have o0_1 : A.off 0 1 1 = 1 := by subst hA; rfl
  cbv at o0_1
  have i2 : A.int 2 = 2 := by subst hA; rfl
  cbv at i2
  have v0 : A.off 0 0 7 = 0 := by subst hA; rfl
  cbv at v0
  have v1 : A.off 0 1 7 = 7 := by subst hA; rfl
  cbv at v1
  refine And.intro (by subst hA; rfl) ?_
  refine unrollL (T := fun _ => tabY [5003, 18] []) (H := fun _ => []) (tabY_ok _ _) noK_ok follows_mixed hA hX 3 fun R hR => ?_
  repeat' first
    | (simp only [l0, l1, l2, b0, b1, o0_0, o0_1, i2, v0, v1, decide_true]; cbv)
    | (refine part (fun h => ?_) (fun h => ?_) <;> try cbv)
    | (refine And.intro ?_ ?_)
    | (refine hR _ _ _ ?_; cbv)
  all_goals clear l0 l1 l2 b0 b1 o0_0 o0_1 i2 v0 v1
  all_goals try clear hR
  all_goals subst hA hX hW
  all_goals obtain ⟨_, _, _, ⟨_, _, _, k1, k2, k3, k4⟩, _, ⟨_, _, _, ⟨_, _, _, k5, k6, k7, k8⟩, _⟩, _, kd⟩ : okLet (⟨m_lkind, m_src, m_dst, m_irep, m_islot, m_be, m_br, m_mkind, m_mclient, m_mseq, m_mkey, m_mfin, m_mold, m_mval, m_tseq, m_td0, m_td1, m_td2, m_td3, m_td4, m_td5, m_td6, m_lstatus, m_lpe, m_lpr, m_lve, m_lvr, m_lckind, m_lcclient, m_lcseq, m_lckey, m_lcfin, m_lcold, m_lcval, m_laseq, m_lad0, m_lad1, m_lad2, m_lad3, m_lad4, m_lad5, m_lad6, m_lsame, m_fd0, m_fd1, m_fd2, m_fd3, m_fd4, m_fd5, m_fd6, m_data⟩ : Letter) := hp0
  all_goals simp only [Letter.cmd, Letter.cell, Cell.cmd] at k1 k2 k3 k4 k5 k6 k7 k8 kd
  rotate_right 1
  · refine ret_v ?_ rfl
    simp only [A0, nc, List.getElem?_cons_succ, List.getElem?_cons_zero, Nat.zero_add]
    rw [wrap_i64 (a := (m_data.size : Int) + m_mkey.size) (by unfold r64; omega), wrap_i64 (a := (m_data.size : Int) + m_mkey.size + m_mfin.size) (by unfold r64; omega), wrap_i64 (a := (m_data.size : Int) + m_mkey.size + m_mfin.size + m_mold.size) (by unfold r64; omega), wrap_i64 (a := (m_data.size : Int) + m_mkey.size + m_mfin.size + m_mold.size + m_mval.size) (by unfold r64; omega), wrap_i64 (a := (m_data.size : Int) + m_mkey.size + m_mfin.size + m_mold.size + m_mval.size + m_lckey.size) (by unfold r64; omega), wrap_i64 (a := (m_data.size : Int) + m_mkey.size + m_mfin.size + m_mold.size + m_mval.size + m_lckey.size + m_lcfin.size) (by unfold r64; omega), wrap_i64 (a := (m_data.size : Int) + m_mkey.size + m_mfin.size + m_mold.size + m_mval.size + m_lckey.size + m_lcfin.size + m_lcold.size) (by unfold r64; omega), wrap_i64 (a := (m_data.size : Int) + m_mkey.size + m_mfin.size + m_mold.size + m_mval.size + m_lckey.size + m_lcfin.size + m_lcold.size + m_lcval.size) (by unfold r64; omega)]
    have e : (m_data.size : Int) + m_mkey.size + m_mfin.size + m_mold.size + m_mval.size + m_lckey.size + m_lcfin.size + m_lcold.size + m_lcval.size = ((m_data.size + m_mkey.size + m_mfin.size + m_mold.size + m_mval.size + m_lckey.size + m_lcfin.size + m_lcold.size + m_lcval.size : Nat) : Int) := by omega
    rw [e]
    rfl
  all_goals first
    | (show (0 : Nat) = 0; rfl)
    | exact ⟨by decide, by decide⟩
    | exact ⟨rfl, Nat.le_of_ble_eq_true rfl, rfl⟩
    | (simp; done)
def kn_light (F : FsL9) : FuncId × (List DV → RV) := (12, fun args => match args with
  | [.agg m_cs] => (match decLetter m_cs with | some m => some ([F.okLet m], boolD ((F.light m))) | none => none)
  | _ => none)
set_option maxRecDepth 100000 in
theorem ok_light (args : List DV) (cs : List Prop) (r : DV) (h : (kn_light FsL90).2 args = some (cs, r)) (hc : allP cs True) : FnV Try.prog 12 args r ∧ closedL 0 args = true := by
  unfold kn_light at h
  simp only at h
  split at h
  · split at h
    · rename_i e0
      cases h
      rw [decLetter_eq e0]
      exact ⟨v_light _ hc.1, rfl⟩
    · cases h
  · cases h
end Go.Proofs.Ytbhapclaochcnaa
namespace Go.Proofs.Ytbhapclaochcnaa
open Go.RowKit
set_option linter.all false
set_option maxHeartbeats 4000000
/-- What stands between two places. -/
def Took (bs : List UInt8) (a a2 : Int) (p : List UInt8) : Prop := bs.take a2.toNat = bs.take a.toNat ++ p
theorem Took.trans {bs : List UInt8} {a b c : Int} {p q : List UInt8} (h1 : Took bs a b p) (h2 : Took bs b c q) : Took bs a c (p ++ q) := by
  unfold Took at *
  rw [h2, h1, List.append_assoc]
theorem Took.refl {bs : List UInt8} {a : Int} : Took bs a a [] := (List.append_nil _).symm
theorem Took.plus {bs : List UInt8} {a : Int} (k : Nat) (h0 : 0 ≤ a) : Took bs a (a + k) ((bs.drop a.toNat).take k) := by
  unfold Took
  rw [show (a + (k : Int)).toNat = a.toNat + k by omega, List.take_add]
theorem numL_took {bs : List UInt8} {a w n a2 w2 : Int} (h0 : 0 ≤ a) (e : numL bs a w = (n, a2, w2)) (hw : w2 = 0) : w = 0 ∧ Took bs a a2 (numB n) := by
  unfold numL at e
  split at e
  · cases e; omega
  · rename_i h
    split at e
    · cases e; omega
    · cases e; omega
    · rename_i u k hs
      cases e
      refine ⟨by omega, ?_⟩
      have := numB_took hs
      rw [← this.1]
      exact Took.plus k h0
theorem numR_took {bs : List UInt8} {a w n a2 w2 : Int} (h : isRd (bytesP bs) a w) (e : numR (bytesP bs) a w = (n, a2, w2)) (hw : w2 = 0) : w = 0 ∧ Took bs a a2 (numB n) := by
  unfold numR at e
  rw [bytesOf_bytesP] at e
  exact numL_took h.2.1 e hw
theorem textR_took {bs : List UInt8} {a w a2 w2 most : Int} {s : ByteArray} (h : isRd (bytesP bs) a w) (e : textR (bytesP bs) a w most = (s, a2, w2)) (hw : w2 = 0) : w = 0 ∧ Took bs a a2 (textB s) := by
  have hc := cnt_rd most h
  unfold cntR at hc
  unfold textR at e
  rw [bytesOf_bytesP] at e hc
  unfold textL at e
  split at e
  · cases e; omega
  · rename_i h1
    split at e
    · cases e; omega
    · rename_i h2
      obtain ⟨⟨n, a1, w1⟩, hq⟩ : ∃ q, cntL bs a w most = q := ⟨_, rfl⟩
      have hn := hq
      rw [hq] at e h1 h2 hc
      unfold cntL at hn
      split at hn
      · cases hn; simp at h1
      · rename_i h3
        simp only at e h1 h2 hc
        have hw1 : w1 = 0 := by omega
        have hp := numL_took h.2.1 hn hw1
        rw [hn] at h3
        simp only at h3
        have hn0 : 0 ≤ n := by omega
        have ha1 : 0 ≤ a1 := hc.1.2.1
        have ha2 : a1 ≤ bs.length := by have := hc.1.2.2.1; rw [bytesP_length] at this; omega
        cases e
        refine ⟨hp.1, ?_⟩
        have hT := hp.2.trans (Took.plus (bs := bs) (a := a1) n.toNat ha1)
        rw [show a1 + (n.toNat : Int) = a1 + n by omega] at hT
        have hs : (((⟨((bs.drop a1.toNat).take n.toNat).toArray⟩ : ByteArray).size : Nat) : Int) = n := by
          show (((bs.drop a1.toNat).take n.toNat).toArray.size : Int) = n
          simp only [List.size_toArray, List.length_take, List.length_drop]
          omega
        unfold textB
        rw [hs]
        exact hT
theorem flagR_took {bs : List UInt8} {a w a2 w2 : Int} {f : Bool} (h : isRd (bytesP bs) a w) (e : flagR (bytesP bs) a w = (f, a2, w2)) (hw : w2 = 0) : w = 0 ∧ Took bs a a2 [if f then 1 else 0] := by
  unfold flagR at e
  rw [bytesOf_bytesP] at e
  unfold flagL at e
  split at e
  · cases e; omega
  · rename_i h1
    split at e
    · cases e; omega
    · rename_i c hc
      split at e
      · cases e; omega
      · rename_i h2
        cases e
        refine ⟨by omega, ?_⟩
        have hT := Took.plus (bs := bs) (a := a) 1 h.2.1
        have hl := (List.getElem?_eq_some_iff.1 hc)
        obtain ⟨hl, hg⟩ := hl
        have : (bs.drop a.toNat).take 1 = [c] := by
          rw [List.drop_eq_getElem_cons hl, hg]
          rfl
        rw [this] at hT
        have hc1 : c = if decide ((c.toNat : Int) = 1) then 1 else 0 := by
          by_cases q : c.toNat = 1
          · have : (c.toNat : Int) = 1 := by omega
            simp only [this, decide_true, if_true]
            exact UInt8.toNat_inj.1 q
          · have : ¬ (c.toNat : Int) = 1 := by omega
            simp only [this, decide_false]
            exact UInt8.toNat_inj.1 (by show c.toNat = 0; omega)
        rw [← hc1]
        exact hT
theorem bal_took {bs : List UInt8} {a w a2 w2 : Int} {b : Ballot} (h : isRd (bytesP bs) a w) (e : getBalX (bytesP bs) a w = (b, a2, w2)) (hw : w2 = 0) : w = 0 ∧ Took bs a a2 (ballotB b) := by
  unfold getBalX at e
  have h1 := (num_rd h).1
  obtain ⟨⟨n, a1, w1⟩, q1⟩ : ∃ q, numR (bytesP bs) a w = q := ⟨_, rfl⟩
  obtain ⟨⟨m, a3, w3⟩, q2⟩ : ∃ q, numR (bytesP bs) a1 w1 = q := ⟨_, rfl⟩
  rw [q1] at h1
  simp only [q1, q2] at e
  cases e
  have t2 := numR_took h1 q2 hw
  have t1 := numR_took h q1 t2.1
  exact ⟨t1.1, t1.2.trans t2.2⟩
theorem getA_took {bs : List UInt8} {a w a2 w2 : Int} {x : Attr} (h : isRd (bytesP bs) a w) (e : getA (bytesP bs) a w = (x, a2, w2)) (hw : w2 = 0) : w = 0 ∧ rightA x = true ∧ Took bs a a2 (putD x) := by
  obtain ⟨⟨y, b2, v2⟩, q⟩ : ∃ q, getN (bytesP bs) a w = q := ⟨_, rfl⟩
  unfold getA at e
  simp only [q] at e
  split at e
  · rename_i hv
    subst hv
    split at e
    · rename_i hr
      cases e
      have h0 := (num_rd h).1
      unfold getN at q
      obtain ⟨⟨n0, a0, w0⟩, q0⟩ : ∃ q, numR (bytesP bs) a w = q := ⟨_, rfl⟩
      rw [q0] at h0
      have h1 := (num_rd h0).1
      obtain ⟨⟨n1, a1, w1⟩, q1⟩ : ∃ q, numR (bytesP bs) a0 w0 = q := ⟨_, rfl⟩
      simp only at h0 h1
      rw [q1] at h1
      have h2 := (num_rd h1).1
      obtain ⟨⟨n2, a2, w2⟩, q2⟩ : ∃ q, numR (bytesP bs) a1 w1 = q := ⟨_, rfl⟩
      simp only at h1 h2
      rw [q2] at h2
      have h3 := (num_rd h2).1
      obtain ⟨⟨n3, a3, w3⟩, q3⟩ : ∃ q, numR (bytesP bs) a2 w2 = q := ⟨_, rfl⟩
      simp only at h2 h3
      rw [q3] at h3
      have h4 := (num_rd h3).1
      obtain ⟨⟨n4, a4, w4⟩, q4⟩ : ∃ q, numR (bytesP bs) a3 w3 = q := ⟨_, rfl⟩
      simp only at h3 h4
      rw [q4] at h4
      have h5 := (num_rd h4).1
      obtain ⟨⟨n5, a5, w5⟩, q5⟩ : ∃ q, numR (bytesP bs) a4 w4 = q := ⟨_, rfl⟩
      simp only at h4 h5
      rw [q5] at h5
      have h6 := (num_rd h5).1
      obtain ⟨⟨n6, a6, w6⟩, q6⟩ : ∃ q, numR (bytesP bs) a5 w5 = q := ⟨_, rfl⟩
      simp only at h5 h6
      rw [q6] at h6
      simp only at h6
      obtain ⟨⟨n7, a7, w7⟩, q7⟩ : ∃ q, numR (bytesP bs) a6 w6 = q := ⟨_, rfl⟩
      simp only [q0, q1, q2, q3, q4, q5, q6, q7] at q
      cases q
      have t7 := numR_took h6 q7 rfl
      have t6 := numR_took h5 q6 t7.1
      have t5 := numR_took h4 q5 t6.1
      have t4 := numR_took h3 q4 t5.1
      have t3 := numR_took h2 q3 t4.1
      have t2 := numR_took h1 q2 t3.1
      have t1 := numR_took h0 q1 t2.1
      have t0 := numR_took h q0 t1.1
      exact ⟨t0.1, hr, t0.2.trans (t1.2.trans (t2.2.trans (t3.2.trans (t4.2.trans (t5.2.trans (t6.2.trans t7.2))))))⟩
    · cases e; omega
  · cases e; omega
theorem getX_took {bs : List UInt8} {a w aE wE : Int} {c : Cmd} (h : isRd (bytesP bs) a w) (e : getX (bytesP bs) a w = (c, aE, wE)) (hw : wE = 0) : w = 0 ∧ rightC c = true ∧ Took bs a aE (putB c) := by
  obtain ⟨⟨y, b2, v2⟩, q⟩ : ∃ q, getB (bytesP bs) a w = q := ⟨_, rfl⟩
  unfold getX at e
  simp only [q] at e
  split at e
  · rename_i hv
    subst hv
    split at e
    · rename_i hr
      cases e
      have h0 := (num_rd h).1
      unfold getB at q
      obtain ⟨⟨n0, a0, w0⟩, q0⟩ : ∃ q, numR (bytesP bs) a w = q := ⟨_, rfl⟩
      rw [q0] at h0
      simp only [q0] at q h0
      split at q
      · rename_i hk
        cases q
        have t0 := numR_took h q0 rfl
        refine ⟨t0.1, hr, ?_⟩
        subst hk
        have := t0.2
        unfold putB
        simpa using this
      rename_i hk
      have h1 := (num_rd h0).1
      obtain ⟨⟨n1, a1, w1⟩, q1⟩ : ∃ q, numR (bytesP bs) a0 w0 = q := ⟨_, rfl⟩
      rw [q1] at h1
      simp only [q1] at q h1
      have h2 := (num_rd h1).1
      obtain ⟨⟨n2, a2, w2⟩, q2⟩ : ∃ q, numR (bytesP bs) a1 w1 = q := ⟨_, rfl⟩
      rw [q2] at h2
      simp only [q2] at q h2
      have h3 := text_rd 16 h2
      obtain ⟨⟨n3, a3, w3⟩, q3⟩ : ∃ q, textR (bytesP bs) a2 w2 16 = q := ⟨_, rfl⟩
      rw [q3] at h3
      simp only [q3] at q h3
      have fin : ∀ (x : Cmd) (p : List UInt8) (bE : Int), rightC x = true → w3 = 0 → Took bs a3 bE p → x.kind = n0 → x.client = n1 → x.seq = n2 → x.key = n3 → (if n0 = 2 then textB x.val else if n0 = 4 then textB x.old ++ textB x.val else if n0 = 5 then textB x.fin else []) = p → w = 0 ∧ rightC x = true ∧ Took bs a bE (putB x) := by
        intro x p bE hr h9 hT e1 e2 e3 e4 e5
        have t3 := textR_took h2 q3 h9
        have t2 := numR_took h1 q2 t3.1
        have t1 := numR_took h0 q1 t2.1
        have t0 := numR_took h q0 t1.1
        refine ⟨t0.1, hr, ?_⟩
        unfold putB
        rw [e1, e2, e3, e4, if_neg hk, e5]
        exact t0.2.trans (t1.2.trans (t2.2.trans (t3.2.trans hT)))
      split at q
      · rename_i hk2
        obtain ⟨⟨n4, a4, w4⟩, q4⟩ : ∃ q, textR (bytesP bs) a3 w3 64 = q := ⟨_, rfl⟩
        simp only [q4] at q
        cases q
        have t4 := textR_took h3 q4 rfl
        exact fin _ _ _ hr t4.1 t4.2 rfl rfl rfl rfl (by rw [if_pos hk2])
      rename_i hk2
      split at q
      · rename_i hk4
        have h4 := text_rd 64 h3
        obtain ⟨⟨n4, a4, w4⟩, q4⟩ : ∃ q, textR (bytesP bs) a3 w3 64 = q := ⟨_, rfl⟩
        rw [q4] at h4
        simp only [q4] at q h4
        obtain ⟨⟨n5, a5, w5⟩, q5⟩ : ∃ q, textR (bytesP bs) a4 w4 64 = q := ⟨_, rfl⟩
        simp only [q5] at q
        cases q
        have t5 := textR_took h4 q5 rfl
        have t4 := textR_took h3 q4 t5.1
        exact fin _ _ _ hr t4.1 (t4.2.trans t5.2) rfl rfl rfl rfl (by rw [if_neg hk2, if_pos hk4])
      rename_i hk4
      split at q
      · rename_i hk5
        obtain ⟨⟨n4, a4, w4⟩, q4⟩ : ∃ q, textR (bytesP bs) a3 w3 16 = q := ⟨_, rfl⟩
        simp only [q4] at q
        cases q
        have t4 := textR_took h3 q4 rfl
        exact fin _ _ _ hr t4.1 t4.2 rfl rfl rfl rfl (by rw [if_neg hk2, if_neg hk4, if_pos hk5])
      rename_i hk5
      cases q
      exact fin _ [] _ hr rfl Took.refl rfl rfl rfl rfl (by rw [if_neg hk2, if_neg hk4, if_neg hk5])
    · cases e; omega
  · cases e; omega
theorem cell_took {bs : List UInt8} {a w a2 w2 : Int} {c : Cell} (h : isRd (bytesP bs) a w) (e : getCellX (bytesP bs) a w = (c, a2, w2)) (hw : w2 = 0) : w = 0 ∧ rightCell c = true ∧ Took bs a a2 (cellB c) := by
  obtain ⟨⟨y, b2, v2⟩, q⟩ : ∃ q, getCellB (bytesP bs) a w = q := ⟨_, rfl⟩
  unfold getCellX at e
  simp only [q] at e
  split at e
  · rename_i hv
    subst hv
    split at e
    · rename_i hr
      cases e
      have h0 := (num_rd h).1
      unfold getCellB at q
      obtain ⟨⟨n0, a0, w0⟩, q0⟩ : ∃ q, numR (bytesP bs) a w = q := ⟨_, rfl⟩
      rw [q0] at h0
      simp only [q0] at q h0
      have h1 := getBal_rd h0
      obtain ⟨⟨n1, a1, w1⟩, q1⟩ : ∃ q, getBalX (bytesP bs) a0 w0 = q := ⟨_, rfl⟩
      rw [q1] at h1
      simp only [q1] at q h1
      split at q
      · rename_i hk
        cases q
        have t1 := bal_took h0 q1 rfl
        have t0 := numR_took h q0 t1.1
        refine ⟨t0.1, hr, ?_⟩
        subst hk
        unfold cellB
        simpa [promC, Cell.prom] using t0.2.trans t1.2
      rename_i hk
      have h2 := getBal_rd h1
      obtain ⟨⟨n2, a2, w2⟩, q2⟩ : ∃ q, getBalX (bytesP bs) a1 w1 = q := ⟨_, rfl⟩
      rw [q2] at h2
      simp only [q2] at q h2
      have h3 := get_rd h2
      obtain ⟨⟨n3, a3, w3⟩, q3⟩ : ∃ q, getX (bytesP bs) a2 w2 = q := ⟨_, rfl⟩
      rw [q3] at h3
      simp only [q3] at q h3
      have h4 := getA_rd h3
      obtain ⟨⟨n4, a4, w4⟩, q4⟩ : ∃ q, getA (bytesP bs) a3 w3 = q := ⟨_, rfl⟩
      rw [q4] at h4
      simp only [q4] at q h4
      obtain ⟨⟨n5, a5, w5⟩, q5⟩ : ∃ q, flagR (bytesP bs) a4 w4 = q := ⟨_, rfl⟩
      simp only [q5] at q
      cases q
      have t5 := flagR_took h4 q5 rfl
      have t4 := getA_took h3 q4 t5.1
      have t3 := getX_took h2 q3 t4.1
      have t2 := bal_took h1 q2 t3.1
      have t1 := bal_took h0 q1 t2.1
      have t0 := numR_took h q0 t1.1
      refine ⟨t0.1, hr, ?_⟩
      unfold cellB
      simp only [if_neg hk]
      exact t0.2.trans (t1.2.trans (t2.2.trans (t3.2.1 |> fun _ => t3.2.2.trans (t4.2.2.trans t5.2))))
    · cases e; omega
  · cases e; omega

end Go.Proofs.Ytbhapclaochcnaa
namespace Go.Proofs.Ytbhapclaochcnaa
open Go.RowKit
set_option linter.all false
set_option maxHeartbeats 4000000
/-- The bytes of a letter behind its kind, from whom and to whom. -/
def restB (m : Letter) (p : Parts) : List UInt8 :=
  (bif p.inst then numB m.irep ++ numB m.islot else []) ++ ((bif p.ballot then ballotB m.ballot else []) ++ ((bif p.cmd then putB m.cmd else []) ++ ((bif p.attr then putD m.attr else []) ++ ((bif p.cell then cellB m.cell else []) ++ ((bif p.deps then numB m.fd0 ++ (numB m.fd1 ++ (numB m.fd2 ++ (numB m.fd3 ++ (numB m.fd4 ++ (numB m.fd5 ++ numB m.fd6))))) else []) ++ (bif p.data then textB m.data else []))))))
def putLB (m : Letter) (p : Parts) : List UInt8 := numB m.lkind ++ (numB m.src ++ (numB m.dst ++ restB m p))
theorem putLX_eq {m : Letter} {p : Parts} (hp : isParts p) (hc : rightC m.cmd = true) (hl : rightCell m.cell = true) : putLX m p = bytesP (putLB m p) := by
  unfold putLX putLB restB
  rcases hp with e | e | e | e | e | e | e | e <;> subst e <;> simp only [cond_true, cond_false, numX, ballotX, putX, hc, putA_eq, putCellX, hl, textX, ballotB, Letter.ballot, if_true, ← bytesP_append, List.append_assoc, List.nil_append, List.append_nil]
theorem text_backN (pre rest : List UInt8) (s : ByteArray) (most : Int) (hs : (s.size : Int) ≤ most) (hm : most ≤ 1099511627776) : textL (pre ++ (textB s ++ rest)) pre.length 0 most = (s, (pre.length : Int) + ((textB s).length : Int), (0 : Int)) := by
  have hn := num_back pre (s.data.toList ++ rest) (s.size : Int) (by unfold r64; omega)
  have hl := size_list s
  have hc : cntL (pre ++ (textB s ++ rest)) pre.length 0 most = ((s.size : Int), (pre.length : Int) + ((numB s.size).length : Int), (0 : Int)) := by
    unfold cntL textB
    rw [List.append_assoc, hn]
    simp only
    rw [if_neg (by omega)]
  unfold textL
  rw [hc]
  simp only
  rw [if_neg (by simp), if_neg (by simp only [textB, List.length_append, hl]; omega)]
  have hd : ((pre ++ (textB s ++ rest)).drop ((pre.length : Int) + (numB s.size).length).toNat).take ((s.size : Int)).toNat = s.data.toList := by
    rw [show ((pre.length : Int) + ((numB s.size).length : Int)).toNat = (pre ++ numB s.size).length by simp only [List.length_append]; omega, textB, List.append_assoc, ← List.append_assoc pre, List.drop_left, show ((s.size : Int)).toNat = s.data.toList.length by omega, List.take_left]
  rw [hd]
  simp only [textB, List.length_append, hl]
  refine Prod.ext (by simp) (Prod.ext ?_ rfl)
  simp only
  omega
theorem textR_backN {bs : List UInt8} (pre rest : List UInt8) (s : ByteArray) (most : Int) {a : Int} (hs : (s.size : Int) ≤ most) (hm : most ≤ 1099511627776) (e : bs = pre ++ (textB s ++ rest)) (ha : a = pre.length) : textR (bytesP bs) a 0 most = (s, ((pre ++ textB s).length : Int), 0) := by
  subst e ha
  unfold textR
  rw [bytesOf_bytesP, text_backN pre rest s most hs hm, List.length_append]
  refine Prod.ext rfl (Prod.ext ?_ rfl)
  simp only; omega
theorem putB_backE {bs : List UInt8} (pre rest : List UInt8) (c : Cmd) {a : Int} (hr : rightC c = true) (hk : okC c) (e : bs = pre ++ (putB c ++ rest)) (ha : a = pre.length) : getX (bytesP bs) a 0 = (c, ((pre ++ putB c).length : Int), 0) := by
  subst e ha
  exact putB_back pre rest c hr hk
theorem eqLet_iff (a b : Letter) : eqLet a b = true ↔ a = b := by
  cases a
  cases b
  simp only [eqLet, Bool.and_eq_true, decide_eq_true_eq, Letter.mk.injEq, and_true]
theorem rightL_bare {m : Letter} (h : rightL m = true) : (namedP m.lkind).2 = true ∧ placeR m.src = true ∧ placeR m.dst = true ∧ m.src ≠ m.dst ∧ m = bareL m (namedP m.lkind).1 := by
  unfold rightL at h
  cases h1 : badL1 m
  · rw [h1] at h
    unfold badL1 at h1
    have h5 : eqLet m (bareL m (namedP m.lkind).1) = true ∧ (namedP m.lkind).2 = true ∧ placeR m.src = true ∧ placeR m.dst = true ∧ decide (m.src = m.dst) = false := by
      revert h1
      cases (namedP m.lkind).2 <;> cases placeR m.src <;> cases placeR m.dst <;> cases decide (m.src = m.dst) <;> cases eqLet m (bareL m (namedP m.lkind).1) <;> simp
    exact ⟨h5.2.1, h5.2.2.1, h5.2.2.2.1, of_decide_eq_false h5.2.2.2.2, (eqLet_iff _ _).1 h5.1⟩
  · rw [h1] at h; cases h
theorem rightL_more {m : Letter} (h : rightL m = true) : ((namedP m.lkind).1.inst = true → rightI m.inst = true) ∧ rightB m.ballot = true ∧ rightA ⟨0, m.fd0, m.fd1, m.fd2, m.fd3, m.fd4, m.fd5, m.fd6⟩ = true ∧ (m.data.size : Int) ≤ 16384 := by
  unfold rightL at h
  cases h1 : badL1 m
  · rw [h1] at h
    cases h2 : badL2 m
    · rw [h2] at h
      simp only [cond_false] at h
      unfold badL2 at h2
      unfold lastL at h
      refine ⟨?_, ?_, ?_, ?_⟩
      · revert h2
        cases (namedP m.lkind).1.inst <;> cases rightI m.inst <;> simp
      · revert h2
        generalize (bif (namedP m.lkind).1.inst then !rightI m.inst else false) = q
        cases q <;> cases rightB m.ballot <;> simp
      · revert h
        cases rightA ⟨0, m.fd0, m.fd1, m.fd2, m.fd3, m.fd4, m.fd5, m.fd6⟩ <;> simp
      · revert h
        cases rightA ⟨0, m.fd0, m.fd1, m.fd2, m.fd3, m.fd4, m.fd5, m.fd6⟩ <;> simp
    · rw [h2] at h; cases h
  · rw [h1] at h; cases h
theorem rightC_ok {c : Cmd} (h : rightC c = true) : okC c := by
  rcases right_cases h with e | ⟨h1, h2, _, h4, h5, h6, h7⟩
  · subst e
    have z : r64 0 := by unfold r64; decide
    exact ⟨z, z, z, by decide, by decide, by decide, by decide⟩
  · have hq : (1 ≤ c.client ∧ c.client ≤ 8) ∧ (1 ≤ c.seq ∧ c.seq ≤ 1099511627776) := by
      simp only [rightC, within, Bool.or_eq_true, Bool.and_eq_true, decide_eq_true_eq] at h
      rcases h with h | h
      · subst h; simp [Cmd.zero] at h1
      · exact ⟨by grind, by grind⟩
    exact ⟨by unfold r64; omega, by unfold r64; omega, by unfold r64; omega, by omega, by omega, by omega, by omega⟩
theorem rightA_ok {a : Attr} (h : rightA a = true) : rAttr a := by
  simp only [rightA, Attr.deps] at h
  simp only [rightDs, okK, Bool.and_eq_true, decide_eq_true_eq] at h
  unfold rAttr r64
  omega
theorem rightB_ok {b : Ballot} (h : rightB b = true) : rBal b := by
  simp only [rightB, Bool.and_eq_true, decide_eq_true_eq] at h
  unfold rBal r64
  omega
theorem rightCell_more {c : Cell} (h : rightCell c = true) : 0 ≤ c.status ∧ c.status ≤ 3 ∧ rightB c.prom = true ∧ rightB c.voted = true := by
  unfold rightCell at h
  by_cases h1 : c.status < 0
  · simp [h1] at h
  by_cases h2 : 3 < c.status
  · simp [h2] at h
  refine ⟨by omega, by omega, ?_, ?_⟩
  · revert h
    simp only [decide_eq_false h1, decide_eq_false h2]
    cases rightB c.prom <;> simp
  · revert h
    simp only [decide_eq_false h1, decide_eq_false h2]
    cases rightB c.prom <;> cases rightB c.voted <;> simp
theorem rightCell_ok {c : Cell} (h : rightCell c = true) : okCell c := by
  have h1 := rightCell_more h
  have h2 := rightCell_parts h
  exact ⟨by unfold r64; omega, rightB_ok h1.2.2.1, rightB_ok h1.2.2.2, rightC_ok h2.1, rightA_ok h2.2⟩
theorem rightL_ok {m : Letter} (h : rightL m = true) : okLet m := by
  obtain ⟨h1, h2, h3, _, h4⟩ := rightL_bare h
  obtain ⟨g1, g2, g3, g4⟩ := rightL_more h
  obtain ⟨f1, f2, f3⟩ := rightL_parts h
  have hk : r64 m.lkind := by
    unfold namedP at h1
    unfold r64
    split at h1
    · omega
    split at h1
    · omega
    split at h1
    · omega
    split at h1
    · omega
    split at h1
    · omega
    split at h1
    · omega
    split at h1
    · omega
    · cases h1
  have hi : r64 m.irep ∧ r64 m.islot := by
    cases hp : (namedP m.lkind).1.inst
    · have e1 : m.irep = 0 := by rw [h4]; simp only [bareL, hp, cond_false]
      have e2 : m.islot = 0 := by rw [h4]; simp only [bareL, hp, cond_false]
      rw [e1, e2]
      unfold r64
      omega
    · have := g1 hp
      simp only [Letter.inst] at this
      simp only [rightI, Bool.and_eq_true, decide_eq_true_eq] at this
      unfold r64
      omega
  simp only [placeR, Bool.and_eq_true, decide_eq_true_eq] at h2 h3
  have hd := rightA_ok g3
  unfold rAttr at hd
  exact ⟨⟨hk, by unfold r64; omega, by unfold r64; omega⟩, hi, rightB_ok g2, rightC_ok f1, rightA_ok f2, rightCell_ok f3, hd.2, by omega⟩

set_option maxRecDepth 100000 in
theorem rest_back {bs : List UInt8} (pre tl : List UInt8) {m : Letter} {a : Int} (hr : rightL m = true) (E : bs = pre ++ (restB m (namedP m.lkind).1 ++ tl)) (ha : a = pre.length) : restL (bytesP bs) a 0 m.lkind m.src m.dst (namedP m.lkind).1 = (m, ((pre ++ restB m (namedP m.lkind).1).length : Int), 0) := by
  have hrb := (rightL_bare hr).2.2.2.2
  have hrm := rightL_more hr
  have hrp := rightL_parts hr
  obtain ⟨_, ⟨ki1, ki2⟩, kb, kc, kt, kl, ⟨kf0, kf1, kf2, kf3, kf4, kf5, kf6⟩, _⟩ := rightL_ok hr
  have hpp := named_parts m.lkind
  generalize (namedP m.lkind).1 = P at *
  subst ha
  rcases hpp with e | e | e | e | e | e | e | e
  all_goals subst e
  all_goals simp only [restB, cond_true, cond_false, List.append_assoc, List.nil_append, List.append_nil] at E
  · have e0 := numR_back (bs := bs) (pre) _ m.irep ki1 (by first | exact E | (rw [E]; simp only [List.append_assoc]; done) | (rw [E]; simp only [List.append_assoc]; rfl)) rfl
    have e1 := numR_back (bs := bs) ((pre) ++ numB m.irep) _ m.islot ki2 (by first | exact E | (rw [E]; simp only [List.append_assoc]; done) | (rw [E]; simp only [List.append_assoc]; rfl)) rfl
    have e2 := bal_back (bs := bs) (((pre) ++ numB m.irep) ++ numB m.islot) _ m.ballot kb (by first | exact E | (rw [E]; simp only [List.append_assoc]; done) | (rw [E]; simp only [List.append_assoc]; rfl)) rfl
    have e3 := putB_backE (bs := bs) ((((pre) ++ numB m.irep) ++ numB m.islot) ++ ballotB m.ballot) _ m.cmd hrp.1 kc (by first | exact E | (rw [E]; simp only [List.append_assoc]; done) | (rw [E]; simp only [List.append_assoc]; rfl)) rfl
    have e4 := putD_back (bs := bs) (((((pre) ++ numB m.irep) ++ numB m.islot) ++ ballotB m.ballot) ++ putB m.cmd) _ m.attr kt hrp.2.1 (by first | exact E | (rw [E]; simp only [List.append_assoc]; done) | (rw [E]; simp only [List.append_assoc]; rfl)) rfl
    unfold restL
    simp only [cond_true, cond_false, e0, e1, e2, e3, e4]
    refine Prod.ext hrb.symm (Prod.ext ?_ rfl)
    simp only [restB, cond_true, cond_false, List.append_assoc, List.nil_append, List.append_nil]
  · have e0 := numR_back (bs := bs) (pre) _ m.irep ki1 (by first | exact E | (rw [E]; simp only [List.append_assoc]; done) | (rw [E]; simp only [List.append_assoc]; rfl)) rfl
    have e1 := numR_back (bs := bs) ((pre) ++ numB m.irep) _ m.islot ki2 (by first | exact E | (rw [E]; simp only [List.append_assoc]; done) | (rw [E]; simp only [List.append_assoc]; rfl)) rfl
    have e2 := bal_back (bs := bs) (((pre) ++ numB m.irep) ++ numB m.islot) _ m.ballot kb (by first | exact E | (rw [E]; simp only [List.append_assoc]; done) | (rw [E]; simp only [List.append_assoc]; rfl)) rfl
    have e3 := putD_back (bs := bs) ((((pre) ++ numB m.irep) ++ numB m.islot) ++ ballotB m.ballot) _ m.attr kt hrp.2.1 (by first | exact E | (rw [E]; simp only [List.append_assoc]; done) | (rw [E]; simp only [List.append_assoc]; rfl)) rfl
    unfold restL
    simp only [cond_true, cond_false, e0, e1, e2, e3]
    refine Prod.ext hrb.symm (Prod.ext ?_ rfl)
    simp only [restB, cond_true, cond_false, List.append_assoc, List.nil_append, List.append_nil]
  · have e0 := numR_back (bs := bs) (pre) _ m.irep ki1 (by first | exact E | (rw [E]; simp only [List.append_assoc]; done) | (rw [E]; simp only [List.append_assoc]; rfl)) rfl
    have e1 := numR_back (bs := bs) ((pre) ++ numB m.irep) _ m.islot ki2 (by first | exact E | (rw [E]; simp only [List.append_assoc]; done) | (rw [E]; simp only [List.append_assoc]; rfl)) rfl
    have e2 := bal_back (bs := bs) (((pre) ++ numB m.irep) ++ numB m.islot) _ m.ballot kb (by first | exact E | (rw [E]; simp only [List.append_assoc]; done) | (rw [E]; simp only [List.append_assoc]; rfl)) rfl
    unfold restL
    simp only [cond_true, cond_false, e0, e1, e2]
    refine Prod.ext hrb.symm (Prod.ext ?_ rfl)
    simp only [restB, cond_true, cond_false, List.append_assoc, List.nil_append, List.append_nil]
  · have e0 := numR_back (bs := bs) (pre) _ m.irep ki1 (by first | exact E | (rw [E]; simp only [List.append_assoc]; done) | (rw [E]; simp only [List.append_assoc]; rfl)) rfl
    have e1 := numR_back (bs := bs) ((pre) ++ numB m.irep) _ m.islot ki2 (by first | exact E | (rw [E]; simp only [List.append_assoc]; done) | (rw [E]; simp only [List.append_assoc]; rfl)) rfl
    have e2 := putB_backE (bs := bs) (((pre) ++ numB m.irep) ++ numB m.islot) _ m.cmd hrp.1 kc (by first | exact E | (rw [E]; simp only [List.append_assoc]; done) | (rw [E]; simp only [List.append_assoc]; rfl)) rfl
    have e3 := putD_back (bs := bs) ((((pre) ++ numB m.irep) ++ numB m.islot) ++ putB m.cmd) _ m.attr kt hrp.2.1 (by first | exact E | (rw [E]; simp only [List.append_assoc]; done) | (rw [E]; simp only [List.append_assoc]; rfl)) rfl
    unfold restL
    simp only [cond_true, cond_false, e0, e1, e2, e3]
    refine Prod.ext hrb.symm (Prod.ext ?_ rfl)
    simp only [restB, cond_true, cond_false, List.append_assoc, List.nil_append, List.append_nil]
  · have e0 := numR_back (bs := bs) (pre) _ m.irep ki1 (by first | exact E | (rw [E]; simp only [List.append_assoc]; done) | (rw [E]; simp only [List.append_assoc]; rfl)) rfl
    have e1 := numR_back (bs := bs) ((pre) ++ numB m.irep) _ m.islot ki2 (by first | exact E | (rw [E]; simp only [List.append_assoc]; done) | (rw [E]; simp only [List.append_assoc]; rfl)) rfl
    have e2 := bal_back (bs := bs) (((pre) ++ numB m.irep) ++ numB m.islot) _ m.ballot kb (by first | exact E | (rw [E]; simp only [List.append_assoc]; done) | (rw [E]; simp only [List.append_assoc]; rfl)) rfl
    have e3 := cell_back (bs := bs) ((((pre) ++ numB m.irep) ++ numB m.islot) ++ ballotB m.ballot) _ m.cell hrp.2.2 kl (by first | exact E | (rw [E]; simp only [List.append_assoc]; done) | (rw [E]; simp only [List.append_assoc]; rfl)) rfl
    unfold restL
    simp only [cond_true, cond_false, e0, e1, e2, e3]
    refine Prod.ext hrb.symm (Prod.ext ?_ rfl)
    simp only [restB, cond_true, cond_false, List.append_assoc, List.nil_append, List.append_nil]
  · have e0 := numR_back (bs := bs) (pre) _ m.fd0 kf0 (by first | exact E | (rw [E]; simp only [List.append_assoc]; done) | (rw [E]; simp only [List.append_assoc]; rfl)) rfl
    have e1 := numR_back (bs := bs) ((pre) ++ numB m.fd0) _ m.fd1 kf1 (by first | exact E | (rw [E]; simp only [List.append_assoc]; done) | (rw [E]; simp only [List.append_assoc]; rfl)) rfl
    have e2 := numR_back (bs := bs) (((pre) ++ numB m.fd0) ++ numB m.fd1) _ m.fd2 kf2 (by first | exact E | (rw [E]; simp only [List.append_assoc]; done) | (rw [E]; simp only [List.append_assoc]; rfl)) rfl
    have e3 := numR_back (bs := bs) ((((pre) ++ numB m.fd0) ++ numB m.fd1) ++ numB m.fd2) _ m.fd3 kf3 (by first | exact E | (rw [E]; simp only [List.append_assoc]; done) | (rw [E]; simp only [List.append_assoc]; rfl)) rfl
    have e4 := numR_back (bs := bs) (((((pre) ++ numB m.fd0) ++ numB m.fd1) ++ numB m.fd2) ++ numB m.fd3) _ m.fd4 kf4 (by first | exact E | (rw [E]; simp only [List.append_assoc]; done) | (rw [E]; simp only [List.append_assoc]; rfl)) rfl
    have e5 := numR_back (bs := bs) ((((((pre) ++ numB m.fd0) ++ numB m.fd1) ++ numB m.fd2) ++ numB m.fd3) ++ numB m.fd4) _ m.fd5 kf5 (by first | exact E | (rw [E]; simp only [List.append_assoc]; done) | (rw [E]; simp only [List.append_assoc]; rfl)) rfl
    have e6 := numR_back (bs := bs) (((((((pre) ++ numB m.fd0) ++ numB m.fd1) ++ numB m.fd2) ++ numB m.fd3) ++ numB m.fd4) ++ numB m.fd5) _ m.fd6 kf6 (by first | exact E | (rw [E]; simp only [List.append_assoc]; done) | (rw [E]; simp only [List.append_assoc]; rfl)) rfl
    unfold restL
    simp only [cond_true, cond_false, e0, e1, e2, e3, e4, e5, e6]
    refine Prod.ext hrb.symm (Prod.ext ?_ rfl)
    simp only [restB, cond_true, cond_false, List.append_assoc, List.nil_append, List.append_nil]
  · have e0 := textR_backN (bs := bs) (pre) _ m.data 16384 hrm.2.2.2 (by decide) (by first | exact E | (rw [E]; simp only [List.append_assoc]; done) | (rw [E]; simp only [List.append_assoc]; rfl)) rfl
    unfold restL
    simp only [cond_true, cond_false, e0]
    refine Prod.ext hrb.symm (Prod.ext ?_ rfl)
    simp only [restB, cond_true, cond_false, List.append_assoc, List.nil_append, List.append_nil]
  · unfold restL
    simp only [cond_true, cond_false]
    refine Prod.ext hrb.symm (Prod.ext ?_ rfl)
    simp only [restB, cond_true, cond_false, List.append_assoc, List.nil_append, List.append_nil]
set_option maxRecDepth 100000 in
theorem rest_took {bs : List UInt8} {m : Letter} {a w a2 w2 k s d : Int} {p : Parts} (hp : isParts p) (h : isRd (bytesP bs) a w) (e : restL (bytesP bs) a w k s d p = (m, a2, w2)) (hw : w2 = 0) : w = 0 ∧ Took bs a a2 (restB m p) ∧ m.lkind = k ∧ m.src = s ∧ m.dst = d := by
  rcases hp with q | q | q | q | q | q | q | q
  all_goals subst q
  all_goals unfold restL at e
  all_goals simp only [cond_true, cond_false] at e
  · obtain ⟨⟨n0, b0, v0⟩, q0⟩ : ∃ q, numR (bytesP bs) a w = q := ⟨_, rfl⟩
    have h0 := (num_rd h).1
    rw [q0] at h0
    simp only [q0] at e
    obtain ⟨⟨n1, b1, v1⟩, q1⟩ : ∃ q, numR (bytesP bs) b0 v0 = q := ⟨_, rfl⟩
    have h1 := (num_rd h0).1
    rw [q1] at h1
    simp only [q1] at e
    obtain ⟨⟨n2, b2, v2⟩, q2⟩ : ∃ q, getBalX (bytesP bs) b1 v1 = q := ⟨_, rfl⟩
    have h2 := getBal_rd h1
    rw [q2] at h2
    simp only [q2] at e
    obtain ⟨⟨n3, b3, v3⟩, q3⟩ : ∃ q, getX (bytesP bs) b2 v2 = q := ⟨_, rfl⟩
    have h3 := get_rd h2
    rw [q3] at h3
    simp only [q3] at e
    obtain ⟨⟨n4, b4, v4⟩, q4⟩ : ∃ q, getA (bytesP bs) b3 v3 = q := ⟨_, rfl⟩
    have h4 := getA_rd h3
    rw [q4] at h4
    simp only [q4] at e
    cases e
    have t4 := getA_took h3 q4 hw
    have t3 := getX_took h2 q3 t4.1
    have t2 := bal_took h1 q2 t3.1
    have t1 := numR_took h0 q1 t2.1
    have t0 := numR_took h q0 t1.1
    refine ⟨t0.1, ?_, rfl, rfl, rfl⟩
    have hT := t0.2.trans (t1.2.trans (t2.2.trans (t3.2.2.trans (t4.2.2))))
    simp only [restB, cond_true, cond_false, List.append_assoc, List.nil_append, List.append_nil]
    first | exact hT | (simp only [List.append_assoc] at hT; exact hT)
  · obtain ⟨⟨n0, b0, v0⟩, q0⟩ : ∃ q, numR (bytesP bs) a w = q := ⟨_, rfl⟩
    have h0 := (num_rd h).1
    rw [q0] at h0
    simp only [q0] at e
    obtain ⟨⟨n1, b1, v1⟩, q1⟩ : ∃ q, numR (bytesP bs) b0 v0 = q := ⟨_, rfl⟩
    have h1 := (num_rd h0).1
    rw [q1] at h1
    simp only [q1] at e
    obtain ⟨⟨n2, b2, v2⟩, q2⟩ : ∃ q, getBalX (bytesP bs) b1 v1 = q := ⟨_, rfl⟩
    have h2 := getBal_rd h1
    rw [q2] at h2
    simp only [q2] at e
    obtain ⟨⟨n3, b3, v3⟩, q3⟩ : ∃ q, getA (bytesP bs) b2 v2 = q := ⟨_, rfl⟩
    have h3 := getA_rd h2
    rw [q3] at h3
    simp only [q3] at e
    cases e
    have t3 := getA_took h2 q3 hw
    have t2 := bal_took h1 q2 t3.1
    have t1 := numR_took h0 q1 t2.1
    have t0 := numR_took h q0 t1.1
    refine ⟨t0.1, ?_, rfl, rfl, rfl⟩
    have hT := t0.2.trans (t1.2.trans (t2.2.trans (t3.2.2)))
    simp only [restB, cond_true, cond_false, List.append_assoc, List.nil_append, List.append_nil]
    first | exact hT | (simp only [List.append_assoc] at hT; exact hT)
  · obtain ⟨⟨n0, b0, v0⟩, q0⟩ : ∃ q, numR (bytesP bs) a w = q := ⟨_, rfl⟩
    have h0 := (num_rd h).1
    rw [q0] at h0
    simp only [q0] at e
    obtain ⟨⟨n1, b1, v1⟩, q1⟩ : ∃ q, numR (bytesP bs) b0 v0 = q := ⟨_, rfl⟩
    have h1 := (num_rd h0).1
    rw [q1] at h1
    simp only [q1] at e
    obtain ⟨⟨n2, b2, v2⟩, q2⟩ : ∃ q, getBalX (bytesP bs) b1 v1 = q := ⟨_, rfl⟩
    have h2 := getBal_rd h1
    rw [q2] at h2
    simp only [q2] at e
    cases e
    have t2 := bal_took h1 q2 hw
    have t1 := numR_took h0 q1 t2.1
    have t0 := numR_took h q0 t1.1
    refine ⟨t0.1, ?_, rfl, rfl, rfl⟩
    have hT := t0.2.trans (t1.2.trans (t2.2))
    simp only [restB, cond_true, cond_false, List.append_assoc, List.nil_append, List.append_nil]
    first | exact hT | (simp only [List.append_assoc] at hT; exact hT)
  · obtain ⟨⟨n0, b0, v0⟩, q0⟩ : ∃ q, numR (bytesP bs) a w = q := ⟨_, rfl⟩
    have h0 := (num_rd h).1
    rw [q0] at h0
    simp only [q0] at e
    obtain ⟨⟨n1, b1, v1⟩, q1⟩ : ∃ q, numR (bytesP bs) b0 v0 = q := ⟨_, rfl⟩
    have h1 := (num_rd h0).1
    rw [q1] at h1
    simp only [q1] at e
    obtain ⟨⟨n2, b2, v2⟩, q2⟩ : ∃ q, getX (bytesP bs) b1 v1 = q := ⟨_, rfl⟩
    have h2 := get_rd h1
    rw [q2] at h2
    simp only [q2] at e
    obtain ⟨⟨n3, b3, v3⟩, q3⟩ : ∃ q, getA (bytesP bs) b2 v2 = q := ⟨_, rfl⟩
    have h3 := getA_rd h2
    rw [q3] at h3
    simp only [q3] at e
    cases e
    have t3 := getA_took h2 q3 hw
    have t2 := getX_took h1 q2 t3.1
    have t1 := numR_took h0 q1 t2.1
    have t0 := numR_took h q0 t1.1
    refine ⟨t0.1, ?_, rfl, rfl, rfl⟩
    have hT := t0.2.trans (t1.2.trans (t2.2.2.trans (t3.2.2)))
    simp only [restB, cond_true, cond_false, List.append_assoc, List.nil_append, List.append_nil]
    first | exact hT | (simp only [List.append_assoc] at hT; exact hT)
  · obtain ⟨⟨n0, b0, v0⟩, q0⟩ : ∃ q, numR (bytesP bs) a w = q := ⟨_, rfl⟩
    have h0 := (num_rd h).1
    rw [q0] at h0
    simp only [q0] at e
    obtain ⟨⟨n1, b1, v1⟩, q1⟩ : ∃ q, numR (bytesP bs) b0 v0 = q := ⟨_, rfl⟩
    have h1 := (num_rd h0).1
    rw [q1] at h1
    simp only [q1] at e
    obtain ⟨⟨n2, b2, v2⟩, q2⟩ : ∃ q, getBalX (bytesP bs) b1 v1 = q := ⟨_, rfl⟩
    have h2 := getBal_rd h1
    rw [q2] at h2
    simp only [q2] at e
    obtain ⟨⟨n3, b3, v3⟩, q3⟩ : ∃ q, getCellX (bytesP bs) b2 v2 = q := ⟨_, rfl⟩
    have h3 := getCell_rd h2
    rw [q3] at h3
    simp only [q3] at e
    cases e
    have t3 := cell_took h2 q3 hw
    have t2 := bal_took h1 q2 t3.1
    have t1 := numR_took h0 q1 t2.1
    have t0 := numR_took h q0 t1.1
    refine ⟨t0.1, ?_, rfl, rfl, rfl⟩
    have hT := t0.2.trans (t1.2.trans (t2.2.trans (t3.2.2)))
    simp only [restB, cond_true, cond_false, List.append_assoc, List.nil_append, List.append_nil]
    first | exact hT | (simp only [List.append_assoc] at hT; exact hT)
  · obtain ⟨⟨n0, b0, v0⟩, q0⟩ : ∃ q, numR (bytesP bs) a w = q := ⟨_, rfl⟩
    have h0 := (num_rd h).1
    rw [q0] at h0
    simp only [q0] at e
    obtain ⟨⟨n1, b1, v1⟩, q1⟩ : ∃ q, numR (bytesP bs) b0 v0 = q := ⟨_, rfl⟩
    have h1 := (num_rd h0).1
    rw [q1] at h1
    simp only [q1] at e
    obtain ⟨⟨n2, b2, v2⟩, q2⟩ : ∃ q, numR (bytesP bs) b1 v1 = q := ⟨_, rfl⟩
    have h2 := (num_rd h1).1
    rw [q2] at h2
    simp only [q2] at e
    obtain ⟨⟨n3, b3, v3⟩, q3⟩ : ∃ q, numR (bytesP bs) b2 v2 = q := ⟨_, rfl⟩
    have h3 := (num_rd h2).1
    rw [q3] at h3
    simp only [q3] at e
    obtain ⟨⟨n4, b4, v4⟩, q4⟩ : ∃ q, numR (bytesP bs) b3 v3 = q := ⟨_, rfl⟩
    have h4 := (num_rd h3).1
    rw [q4] at h4
    simp only [q4] at e
    obtain ⟨⟨n5, b5, v5⟩, q5⟩ : ∃ q, numR (bytesP bs) b4 v4 = q := ⟨_, rfl⟩
    have h5 := (num_rd h4).1
    rw [q5] at h5
    simp only [q5] at e
    obtain ⟨⟨n6, b6, v6⟩, q6⟩ : ∃ q, numR (bytesP bs) b5 v5 = q := ⟨_, rfl⟩
    have h6 := (num_rd h5).1
    rw [q6] at h6
    simp only [q6] at e
    cases e
    have t6 := numR_took h5 q6 hw
    have t5 := numR_took h4 q5 t6.1
    have t4 := numR_took h3 q4 t5.1
    have t3 := numR_took h2 q3 t4.1
    have t2 := numR_took h1 q2 t3.1
    have t1 := numR_took h0 q1 t2.1
    have t0 := numR_took h q0 t1.1
    refine ⟨t0.1, ?_, rfl, rfl, rfl⟩
    have hT := t0.2.trans (t1.2.trans (t2.2.trans (t3.2.trans (t4.2.trans (t5.2.trans (t6.2))))))
    simp only [restB, cond_true, cond_false, List.append_assoc, List.nil_append, List.append_nil]
    first | exact hT | (simp only [List.append_assoc] at hT; exact hT)
  · obtain ⟨⟨n0, b0, v0⟩, q0⟩ : ∃ q, textR (bytesP bs) a w 16384 = q := ⟨_, rfl⟩
    have h0 := text_rd 16384 h
    rw [q0] at h0
    simp only [q0] at e
    cases e
    have t0 := textR_took h q0 hw
    refine ⟨t0.1, ?_, rfl, rfl, rfl⟩
    have hT := t0.2
    simp only [restB, cond_true, cond_false, List.append_assoc, List.nil_append, List.append_nil]
    first | exact hT | (simp only [List.append_assoc] at hT; exact hT)
  · cases e
    exact ⟨hw, Took.refl, rfl, rfl, rfl⟩
/-- A right letter's bytes, with any behind them, tell it. -/
theorem heads_back {bs : List UInt8} (tl : List UInt8) {m : Letter} (hr : rightL m = true) (E : bs = putLB m (namedP m.lkind).1 ++ tl) : ∃ k1 k2 k3 : Int, numR (bytesP bs) 0 0 = (m.lkind, k1, 0) ∧ numR (bytesP bs) k1 0 = (m.src, k2, 0) ∧ numR (bytesP bs) k2 0 = (m.dst, k3, 0) ∧ restL (bytesP bs) k3 0 m.lkind m.src m.dst (namedP m.lkind).1 = (m, ((putLB m (namedP m.lkind).1).length : Int), 0) := by
  obtain ⟨⟨k1, k2, k3⟩, _⟩ := rightL_ok hr
  unfold putLB at E
  simp only [List.append_assoc] at E
  have e1 := numR_back (bs := bs) (a := 0) [] _ m.lkind k1 E rfl
  have e2 := numR_back (bs := bs) ([] ++ numB m.lkind) _ m.src k2 (by rw [E]; simp only [List.nil_append]; rfl) rfl
  have e3 := numR_back (bs := bs) (([] ++ numB m.lkind) ++ numB m.src) _ m.dst k3 (by rw [E]; simp only [List.nil_append, List.append_assoc]; rfl) rfl
  have e4 := rest_back (bs := bs) ((([] ++ numB m.lkind) ++ numB m.src) ++ numB m.dst) tl hr (by rw [E]; simp only [List.nil_append, List.append_assoc]) rfl
  refine ⟨_, _, _, e1, e2, e3, ?_⟩
  rw [e4]
  simp only [putLB, List.nil_append, List.append_assoc]
theorem getLet_back {m : Letter} (hr : rightL m = true) : getLet (putLet m) = (m, 0) := by
  have hp := rightL_parts hr
  have hn := (rightL_bare hr).1
  unfold putLet
  rw [if_pos hr, putLX_eq (named_parts _) hp.1 hp.2.2]
  obtain ⟨k1, k2, k3, e1, e2, e3, e4⟩ := heads_back [] hr (List.append_nil (putLB m (namedP m.lkind).1)).symm
  unfold getLet
  simp only [e1, e2, e3, hn, e4]
  have he : endR (bytesP (putLB m (namedP m.lkind).1)) ((putLB m (namedP m.lkind).1).length : Int) 0 = 0 := by
    unfold endR
    rw [bytesP_length, if_neg (by omega)]
  simp [he, hr]
theorem getLet_took {bs : List UInt8} {m : Letter} (hb : bs.length ≤ 8000000) (h : getLet (bytesP bs) = (m, 0)) : rightL m = true ∧ putLet m = bytesP bs := by
  have h0 : isRd (bytesP bs) 0 0 := rd0 ⟨bs, rfl, hb⟩
  unfold getLet at h
  obtain ⟨⟨n1, a1, w1⟩, q1⟩ : ∃ q, numR (bytesP bs) 0 0 = q := ⟨_, rfl⟩
  have h1 := (num_rd h0).1
  rw [q1] at h1
  simp only [q1] at h h1
  obtain ⟨⟨n2, a2, w2⟩, q2⟩ : ∃ q, numR (bytesP bs) a1 w1 = q := ⟨_, rfl⟩
  have h2 := (num_rd h1).1
  rw [q2] at h2
  simp only [q2] at h h2
  obtain ⟨⟨n3, a3, w3⟩, q3⟩ : ∃ q, numR (bytesP bs) a2 w2 = q := ⟨_, rfl⟩
  have h3 := (num_rd h2).1
  rw [q3] at h3
  simp only [q3] at h h3
  obtain ⟨⟨x, a4, w4⟩, q4⟩ : ∃ q, restL (bytesP bs) a3 w3 n1 n2 n3 (namedP n1).1 = q := ⟨_, rfl⟩
  simp only [q4] at h
  cases hx : (bif decide (w3 = 0) then !(namedP n1).2 else false)
  · rw [hx] at h
    simp only [cond_false] at h
    by_cases he : endR (bytesP bs) a4 w4 = 0
    · simp only [he, decide_true, Bool.not_true, cond_false] at h
      cases hr : rightL x
      · rw [hr] at h
        have : (4 : Int) = 0 := congrArg Prod.snd h
        omega
      · rw [hr] at h
        have hm : x = m := congrArg Prod.fst h
        subst hm
        refine ⟨hr, ?_⟩
        have hw4 : w4 = 0 ∧ ¬ a4 < (bytesP bs).length := by
          unfold endR at he
          split at he
          · omega
          · exact ⟨by omega, fun h => by omega⟩
        have t4 := rest_took (named_parts n1) h3 q4 hw4.1
        have t3 := numR_took h2 q3 t4.1
        have t2 := numR_took h1 q2 t3.1
        have t1 := numR_took h0 q1 t2.1
        have hT := t1.2.trans (t2.2.trans (t3.2.trans t4.2.1))
        have hp := rightL_parts hr
        unfold putLet
        rw [if_pos hr, putLX_eq (named_parts _) hp.1 hp.2.2]
        unfold Took at hT
        rw [bytesP_length] at hw4
        rw [List.take_of_length_le (by omega)] at hT
        rw [hT]
        unfold putLB
        obtain ⟨_, _, e1, e2, e3⟩ := t4
        rw [e1, e2, e3]
        rfl
    · simp only [decide_eq_false he, Bool.not_false, cond_true] at h
      exact absurd (congrArg Prod.snd h) he
  · rw [hx] at h
    have : (4 : Int) = 0 := congrArg Prod.snd h
    omega
/-- No other right letter's bytes begin with these. -/
theorem putLB_begins {a b : Letter} (ha : rightL a = true) (hb : rightL b = true) {tl : List UInt8} (h : putLB b (namedP b.lkind).1 = putLB a (namedP a.lkind).1 ++ tl) : a = b := by
  obtain ⟨bs, hbs⟩ : ∃ bs, bs = putLB b (namedP b.lkind).1 := ⟨_, rfl⟩
  obtain ⟨k1, k2, k3, e1, e2, e3, e4⟩ := heads_back tl ha (hbs.trans h)
  obtain ⟨j1, j2, j3, f1, f2, f3, f4⟩ := heads_back [] hb (hbs.trans (List.append_nil (putLB b (namedP b.lkind).1)).symm)
  rw [e1] at f1
  simp only [Prod.mk.injEq, and_true] at f1
  rw [← f1.2, e2] at f2
  simp only [Prod.mk.injEq, and_true] at f2
  rw [← f2.2, e3] at f3
  simp only [Prod.mk.injEq, and_true] at f3
  rw [← f3.2, ← f1.1, ← f2.1, ← f3.1, e4] at f4
  exact congrArg Prod.fst f4
/-- No beginning of a right letter's bytes is one. -/
theorem getLet_cut {m x : Letter} {k : Nat} (hr : rightL m = true) (hl : (putLB m (namedP m.lkind).1).length ≤ 8000000) (hk : k < (putLB m (namedP m.lkind).1).length) : getLet (bytesP ((putLB m (namedP m.lkind).1).take k)) ≠ (x, 0) := by
  intro h
  have ht := getLet_took (by rw [List.length_take]; omega) h
  have hp := rightL_parts ht.1
  have h2 := ht.2
  unfold putLet at h2
  rw [if_pos ht.1, putLX_eq (named_parts _) hp.1 hp.2.2] at h2
  have h3 : putLB x (namedP x.lkind).1 = (putLB m (namedP m.lkind).1).take k := by
    have := congrArg bytesOf h2
    rwa [bytesOf_bytesP, bytesOf_bytesP] at this
  have hx : x = m := putLB_begins ht.1 hr (tl := (putLB m (namedP m.lkind).1).drop k) (by rw [h3, List.take_append_drop])
  subst hx
  have := congrArg List.length h3
  rw [List.length_take] at this
  omega

theorem cellB_small {c : Cell} (hr : rightCell c = true) : (cellB c).length ≤ 600 := by
  have h1 := putB_small (rightCell_parts hr).1
  have h3 := putD_small c.attr
  have p := numB_length
  have q0 := p c.status
  have q1 := p c.pe
  have q2 := p c.pr
  have q3 := p c.ve
  have q4 := p c.vr
  unfold cellB
  split
  · simp only [List.length_append, ballotB, Cell.prom, List.length_nil]; omega
  · simp only [List.length_append, ballotB, Cell.prom, Cell.voted, List.length_singleton]; omega
theorem bif_le {b : Bool} {l : List UInt8} {k : Nat} (h : l.length ≤ k) : (bif b then l else []).length ≤ k := by cases b <;> simp [h]
theorem putLB_small {m : Letter} (hr : rightL m = true) (p : Parts) : (putLB m p).length ≤ 100000 := by
  have hm := rightL_more hr
  have hp := rightL_parts hr
  have q := numB_length
  have h1 := q m.lkind
  have h2 := q m.src
  have h3 := q m.dst
  have h4 := q m.irep
  have h5 := q m.islot
  have h6 := q m.be
  have h7 := q m.br
  have g0 := q m.fd0
  have g1 := q m.fd1
  have g2 := q m.fd2
  have g3 := q m.fd3
  have g4 := q m.fd4
  have g5 := q m.fd5
  have g6 := q m.fd6
  have hc := putB_small hp.1
  have hd := putD_small m.attr
  have hl := cellB_small hp.2.2
  have ht := textB_length m.data
  have r1 := bif_le (b := p.inst) (l := numB m.irep ++ numB m.islot) (k := 20) (by rw [List.length_append]; omega)
  have r2 := bif_le (b := p.ballot) (l := ballotB m.ballot) (k := 20) (by simp only [ballotB, Letter.ballot, List.length_append]; omega)
  have r3 := bif_le (b := p.cmd) hc
  have r4 := bif_le (b := p.attr) hd
  have r5 := bif_le (b := p.cell) hl
  have r6 := bif_le (b := p.deps) (l := numB m.fd0 ++ (numB m.fd1 ++ (numB m.fd2 ++ (numB m.fd3 ++ (numB m.fd4 ++ (numB m.fd5 ++ numB m.fd6)))))) (k := 70) (by simp only [List.length_append]; omega)
  have r7 := bif_le (b := p.data) (l := textB m.data) (k := 20000) (by omega)
  unfold putLB restB
  simp only [List.length_append]
  omega
theorem putLet_eq {m : Letter} (hr : rightL m = true) : putLet m = bytesP (putLB m (namedP m.lkind).1) := by
  have hp := rightL_parts hr
  unfold putLet
  rw [if_pos hr, putLX_eq (named_parts _) hp.1 hp.2.2]
theorem putLet_B (m : Letter) : isB (putLet m) := by
  cases hr : rightL m
  · exact ⟨[], by unfold putLet; rw [hr]; rfl, by decide⟩
  · exact ⟨_, putLet_eq hr, by have := putLB_small hr (namedP m.lkind).1; omega⟩
theorem isB_sub {xs : List (List PD)} (h : isB xs) (i j : Nat) : isB ((xs.drop i).take j) := by
  obtain ⟨bs, rfl, hl⟩ := h
  refine ⟨(bs.drop i).take j, by simp [bytesP, List.map_take, List.map_drop], ?_⟩
  rw [List.length_take, List.length_drop]
  omega
theorem putLB_pos (m : Letter) (p : Parts) : 0 < (putLB m p).length := by
  have : 0 < (numB m.lkind).length := numF_pos 9 _
  simp only [putLB, List.length_append]
  omega
theorem apart_eq {a b : Letter} (ha : rightL a = true) (hb : rightL b = true) (n : Int) (hn : n = min ((putLet a).length : Int) ((putLet b).length : Int)) : decide (0 < n) = true ∧ sameX (((putLet a).drop (Int.toNat 0)).take (n.toNat - Int.toNat 0)) (((putLet b).drop (Int.toNat 0)).take (n.toNat - Int.toNat 0)) = eqLet a b := by
  have pa := putLB_pos a (namedP a.lkind).1
  have pb := putLB_pos b (namedP b.lkind).1
  rw [putLet_eq ha, putLet_eq hb, bytesP_length, bytesP_length] at hn
  refine ⟨decide_eq_true (by omega), ?_⟩
  rw [show Int.toNat 0 = 0 from rfl, List.drop_zero, List.drop_zero, Nat.sub_zero, putLet_eq ha, putLet_eq hb, bytesP_take, bytesP_take]
  cases he : eqLet a b
  · refine @decide_eq_false _ (Classical.propDecidable _) fun h => ?_
    have h2 := bytesP_inj.1 h
    have hab : a = b := by
      by_cases hl : (putLB a (namedP a.lkind).1).length ≤ (putLB b (namedP b.lkind).1).length
      · rw [List.take_of_length_le (by omega)] at h2
        exact putLB_begins ha hb (tl := (putLB b (namedP b.lkind).1).drop n.toNat) (by rw [h2, List.take_append_drop])
      · rw [List.take_of_length_le (l := putLB b (namedP b.lkind).1) (by omega)] at h2
        exact (putLB_begins hb ha (tl := (putLB a (namedP a.lkind).1).drop n.toNat) (by rw [← h2, List.take_append_drop])).symm
    rw [(eqLet_iff a b).2 hab] at he
    cases he
  · have hab := (eqLet_iff a b).1 he
    subst hab
    exact @decide_eq_true _ (Classical.propDecidable _) rfl
theorem getLet_cut2 {m : Letter} (hr : rightL m = true) {k : Nat} (hk : k < (putLet m).length) : ¬ (getLet ((putLet m).take k)).2 = 0 := by
  intro hq
  have hs := putLB_small hr (namedP m.lkind).1
  rw [putLet_eq hr, bytesP_length] at hk
  rw [putLet_eq hr, bytesP_take] at hq
  exact getLet_cut (x := (getLet (bytesP ((putLB m (namedP m.lkind).1).take k))).1) hr (by omega) hk (Prod.ext rfl hq)

end Go.Proofs.Ytbhapclaochcnaa
namespace Go.Proofs.Ytbhapclaochcnaa
open Go.RowKit
set_option linter.all false
set_option maxHeartbeats 8000000

structure FsK where
  runs15 : Bool
  cutB : List (List PD) → Prop
def FsK0 : FsK where
  runs15 := true
  cutB := isB
def kn_runs15 (F : FsK) : FuncId × (List DV → RV) := (3, fun args => match args with
  | [] => some ([], boolD F.runs15)
  | _ => none)
theorem ok_runs15 (args : List DV) (cs : List Prop) (r : DV) (h : (kn_runs15 FsK0).2 args = some (cs, r)) (hc : allP cs True) : FnV Try.prog 3 args r ∧ closedL 0 args = true := by
  unfold kn_runs15 at h
  simp only at h
  split at h
  · cases h; exact ⟨v_runs15, rfl⟩
  · cases h
end Go.Proofs.Ytbhapclaochcnaa
