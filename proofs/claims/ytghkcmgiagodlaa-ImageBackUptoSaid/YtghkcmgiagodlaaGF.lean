/- Sums of bytes with a burst turned: they are others. No condition. -/
import Derived.Test.YtghkcmgiagodlaaGE
import Derived.Test.YtghkcmgiagodlaaAm29
import Derived.Test.YtghkcmgiagodlaaStZ
namespace Go.Proofs.Ytghkcmgiagodlaa
open Go.RowKit
set_option linter.all false
theorem xor_zero_eq {a b : Nat} (h : a ^^^ b = 0) : a = b := by
  have h2 : (a ^^^ b) ^^^ b = 0 ^^^ b := by rw [h]
  rwa [Nat.xor_assoc, Nat.xor_self, Nat.xor_zero, Nat.zero_xor] at h2
theorem xor_two (a b : Nat) : (a ^^^ b) % 2 = (a + b) % 2 := by
  have h : (a ^^^ b) % 2 ^ 1 = a % 2 ^ 1 ^^^ b % 2 ^ 1 := Nat.xor_mod_two_pow
  rw [Nat.pow_one] at h
  rw [h]
  rcases Nat.mod_two_eq_zero_or_one a with ha | ha <;> rcases Nat.mod_two_eq_zero_or_one b with hb | hb <;> rw [ha, hb]
  · show 0 = _; omega
  · show 1 = _; omega
  · show 1 = _; omega
  · show 0 = _; omega
theorem crcStep_xor (a b : Nat) : crcStep (a ^^^ b) = crcStep a ^^^ crcStep b := by
  unfold crcStep
  have h1 : (a ^^^ b) / 2 = a / 2 ^^^ b / 2 := Nat.xor_div_two
  have h2 : (a ^^^ b) % 2 = (a + b) % 2 := xor_two a b
  rw [h1, h2]
  rcases Nat.mod_two_eq_zero_or_one a with ha | ha <;> rcases Nat.mod_two_eq_zero_or_one b with hb | hb
  · rw [if_neg (by omega), if_neg (by omega), if_neg (by omega)]
  · rw [if_pos (by omega), if_neg (by omega), if_pos hb, Nat.xor_assoc]
  · rw [if_pos (by omega), if_pos ha, if_neg (by omega), Nat.xor_assoc, Nat.xor_assoc, Nat.xor_comm (b / 2)]
  · rw [if_neg (by omega), if_pos ha, if_pos hb]
    rw [Nat.xor_assoc, Nat.xor_comm 3988292384 (b / 2 ^^^ 3988292384), Nat.xor_assoc (b / 2), Nat.xor_self, Nat.xor_zero]
theorem crcN_xor : ∀ (n a b : Nat), crcN n (a ^^^ b) = crcN n a ^^^ crcN n b
  | 0, _, _ => rfl
  | n + 1, a, b => by
      show crcN n (crcStep (a ^^^ b)) = crcN n (crcStep a) ^^^ crcN n (crcStep b)
      rw [crcStep_xor, crcN_xor n]
theorem crcStep_zero {c : Nat} (h : c < 4294967296) (h0 : crcStep c = 0) : c = 0 := by
  unfold crcStep at h0
  split at h0
  · rename_i h1
    have h2 : c / 2 = 3988292384 := xor_zero_eq h0
    omega
  · omega
theorem crcN_zero : ∀ (n : Nat) {c : Nat}, c < 4294967296 → crcN n c = 0 → c = 0
  | 0, _, _, h => h
  | n + 1, c, h, h0 => crcStep_zero h (crcN_zero n (crcStep_lt h) h0)
theorem crcN_add : ∀ (n m c : Nat), crcN (n + m) c = crcN m (crcN n c)
  | 0, m, c => by rw [Nat.zero_add]; rfl
  | n + 1, m, c => by
      rw [show n + 1 + m = (n + m) + 1 by omega]
      show crcN (n + m) (crcStep c) = crcN m (crcN n (crcStep c))
      exact crcN_add n m _
theorem crcStep_even (v : Nat) : crcStep (2 * v) = v := by
  unfold crcStep
  rw [if_neg (by omega)]
  omega
theorem crcN_shift : ∀ (p v : Nat), crcN p (2 ^ p * v) = v
  | 0, v => by simp [crcN]
  | p + 1, v => by
      show crcN p (crcStep (2 ^ (p + 1) * v)) = v
      rw [show 2 ^ (p + 1) * v = 2 * (2 ^ p * v) by rw [Nat.pow_succ, Nat.mul_comm (2 ^ p) 2, Nat.mul_assoc], crcStep_even]
      exact crcN_shift p v
/-- Bytes as one number, the least first. -/
def leN : List UInt8 → Nat
  | [] => 0
  | x :: l => x.toNat + 256 * leN l
theorem add_xor (x n : Nat) (h : x < 256) : x + 256 * n = x ^^^ (256 * n) := by
  have h1 := Nat.two_pow_add_eq_or_of_lt (i := 8) (show x < 2 ^ 8 from h) n
  have h3 : 2 ^ 8 * n ||| x = 2 ^ 8 * n ^^^ x := by
    apply Nat.eq_of_testBit_eq
    intro i
    rw [Nat.testBit_or, Nat.testBit_xor]
    by_cases hi : i < 8
    · have : (2 ^ 8 * n).testBit i = false := by rw [Nat.testBit_two_pow_mul]; simp; omega
      rw [this]
      simp
    · have : x.testBit i = false := Nat.testBit_lt_two_pow (Nat.lt_of_lt_of_le (show x < 2 ^ 8 from h) (Nat.pow_le_pow_right (by decide) (by omega)))
      rw [this]
      simp
  rw [Nat.add_comm, show (256 : Nat) = 2 ^ 8 from rfl, h1, h3, Nat.xor_comm]
/-- The register that holds all that is still to come. -/
theorem crcL_wide : ∀ (bs : List UInt8) (c : Nat), crcL c bs = crcN (8 * bs.length) (c ^^^ leN bs)
  | [], c => by simp [crcL, crcN, leN]
  | x :: l, c => by
      have e : crcL c (x :: l) = crcL (crcB c x) l := rfl
      rw [e, crcL_wide l, List.length_cons, show 8 * (l.length + 1) = 8 + 8 * l.length by omega, crcN_add]
      congr 1
      have e2 : c ^^^ leN (x :: l) = (c ^^^ x.toNat) ^^^ (2 ^ 8 * leN l) := by
        show c ^^^ (x.toNat + 256 * leN l) = _
        rw [add_xor _ _ x.toNat_lt, Nat.xor_assoc]
      rw [e2, crcN_xor, crcN_shift]
      rfl
/-- A burst of at most 32 bits is seen. -/
theorem burst_seen {us bs : List UInt8} {c p v : Nat} (hl : us.length = bs.length) (hv : v < 4294967296) (hp : p ≤ 8 * bs.length) (he : leN bs = leN us ^^^ (2 ^ p * v)) : crcL c us = crcL c bs ↔ v = 0 := by
  rw [crcL_wide, crcL_wide, hl, he, ← Nat.xor_assoc, crcN_xor _ (c ^^^ leN us)]
  constructor
  · intro h
    have h2 : crcN (8 * bs.length) (2 ^ p * v) = 0 := by
      have h3 := congrArg (fun z => crcN (8 * bs.length) (c ^^^ leN us) ^^^ z) h
      simp only [Nat.xor_self, ← Nat.xor_assoc, Nat.zero_xor] at h3
      exact h3.symm
    rw [show 8 * bs.length = p + (8 * bs.length - p) by omega, crcN_add, crcN_shift] at h2
    exact crcN_zero _ hv h2
  · intro h
    rw [h, Nat.mul_zero]
    have : crcN (8 * bs.length) 0 = 0 := by
      have := crcN_xor (8 * bs.length) 0 0
      rw [Nat.xor_self] at this
      rw [this, Nat.xor_self]
    rw [this, Nat.xor_zero]
end Go.Proofs.Ytghkcmgiagodlaa
namespace Go.Proofs.Ytghkcmgiagodlaa
open Go.RowKit
set_option linter.all false
theorem mul_xor (a b p : Nat) : 2 ^ p * (a ^^^ b) = 2 ^ p * a ^^^ 2 ^ p * b := by
  have h := @Nat.shiftLeft_xor_distrib p a b
  rw [Nat.shiftLeft_eq, Nat.shiftLeft_eq, Nat.shiftLeft_eq] at h
  rw [Nat.mul_comm, h, Nat.mul_comm a, Nat.mul_comm b]
/-- A bit of a row of bytes, turned. -/
def turnB (bs : List UInt8) (j : Nat) : List UInt8 := bs.set (j / 8) (UInt8.ofNat ((bs.getD (j / 8) 0).toNat ^^^ 2 ^ (j % 8)))
theorem turnB_len (bs : List UInt8) (j : Nat) : (turnB bs j).length = bs.length := by unfold turnB; rw [List.length_set]
theorem xor_byte (x j : Nat) (hx : x < 256) (hj : j < 8) : x ^^^ 2 ^ j < 256 := Nat.xor_lt_two_pow (n := 8) hx (Nat.pow_lt_pow_right (by decide) hj)
theorem leN_turn : ∀ (bs : List UInt8) (j : Nat), j < 8 * bs.length → leN (turnB bs j) = leN bs ^^^ 2 ^ j
  | [], j, h => by simp at h
  | x :: l, j, h => by
      by_cases hj : j < 8
      · have e : turnB (x :: l) j = UInt8.ofNat (x.toNat ^^^ 2 ^ j) :: l := by
          unfold turnB
          rw [show j / 8 = 0 by omega, show j % 8 = j by omega]
          rfl
        rw [e]
        have hb := xor_byte x.toNat j x.toNat_lt hj
        have ht : (UInt8.ofNat (x.toNat ^^^ 2 ^ j)).toNat = x.toNat ^^^ 2 ^ j := Nat.mod_eq_of_lt hb
        show (UInt8.ofNat (x.toNat ^^^ 2 ^ j)).toNat + 256 * leN l = (x.toNat + 256 * leN l) ^^^ 2 ^ j
        rw [ht, add_xor _ _ hb, add_xor _ _ x.toNat_lt, Nat.xor_assoc, Nat.xor_assoc, Nat.xor_comm (2 ^ j)]
      · have e : turnB (x :: l) j = x :: turnB l (j - 8) := by
          unfold turnB
          rw [show j / 8 = (j - 8) / 8 + 1 by omega, show j % 8 = (j - 8) % 8 by omega]
          rfl
        rw [e]
        have ih := leN_turn l (j - 8) (by simp only [List.length_cons] at h; omega)
        show x.toNat + 256 * leN (turnB l (j - 8)) = (x.toNat + 256 * leN l) ^^^ 2 ^ j
        rw [ih, add_xor _ _ x.toNat_lt, add_xor _ _ x.toNat_lt, Nat.xor_assoc]
        congr 1
        have h2 := mul_xor (leN l) (2 ^ (j - 8)) 8
        rw [show (2 : Nat) ^ 8 = 256 from rfl] at h2
        rw [h2]
        congr 1
        rw [show (256 : Nat) = 2 ^ 8 from rfl, ← Nat.pow_add, show 8 + (j - 8) = j by omega]
/-- The bits of a burst that lie in the bytes, the first k of them. -/
def brst (burst L bit : Nat) : Nat → Nat
  | 0 => 0
  | k + 1 => if burst.testBit k = true ∧ bit + k < 8 * L then brst burst L bit k ^^^ 2 ^ k else brst burst L bit k
theorem brst_lt (burst L bit : Nat) : ∀ k, brst burst L bit k < 2 ^ k
  | 0 => by simp [brst]
  | k + 1 => by
      have ih := brst_lt burst L bit k
      unfold brst
      split
      · exact Nat.xor_lt_two_pow (Nat.lt_trans ih (Nat.pow_lt_pow_right (by decide) (by omega))) (Nat.pow_lt_pow_right (by decide) (by omega))
      · exact Nat.lt_trans ih (Nat.pow_lt_pow_right (by decide) (by omega))
theorem brst_turned (burst L bit k : Nat) : (brst burst L bit (k + 1) ≠ 0) ↔ (brst burst L bit k ≠ 0 ∨ (burst.testBit k = true ∧ bit + k < 8 * L)) := by
  have hl := brst_lt burst L bit k
  rw [show brst burst L bit (k + 1) = if burst.testBit k = true ∧ bit + k < 8 * L then brst burst L bit k ^^^ 2 ^ k else brst burst L bit k from rfl]
  by_cases h : burst.testBit k = true ∧ bit + k < 8 * L
  · rw [if_pos h]
    refine ⟨fun _ => .inr h, fun _ h0 => ?_⟩
    have := xor_zero_eq h0
    omega
  · rw [if_neg h]
    exact ⟨.inl, fun q => q.resolve_right h⟩
/-- One round of the turning. -/
theorem brst_step {bs as_ : List UInt8} {burst bit k : Nat} (hl : bs.length = as_.length) (he : leN bs = leN as_ ^^^ (2 ^ bit * brst burst as_.length bit k)) : leN (if burst.testBit k = true ∧ bit + k < 8 * as_.length then turnB bs (bit + k) else bs) = leN as_ ^^^ (2 ^ bit * brst burst as_.length bit (k + 1)) := by
  rw [show brst burst as_.length bit (k + 1) = if burst.testBit k = true ∧ bit + k < 8 * as_.length then brst burst as_.length bit k ^^^ 2 ^ k else brst burst as_.length bit k from rfl]
  by_cases h : burst.testBit k = true ∧ bit + k < 8 * as_.length
  · rw [if_pos h, if_pos h, leN_turn _ _ (by omega), he, mul_xor, Nat.xor_assoc, ← Nat.pow_add]
  · rw [if_neg h, if_neg h, he]
end Go.Proofs.Ytghkcmgiagodlaa
namespace Go.Proofs.Ytghkcmgiagodlaa
open Go.RowKit
set_option linter.all false
theorem crcN_inj {n a b : Nat} (ha : a < 4294967296) (hb : b < 4294967296) (h : crcN n a = crcN n b) : a = b := by
  have h2 : crcN n (a ^^^ b) = 0 := by rw [crcN_xor, h, Nat.xor_self]
  exact xor_zero_eq (crcN_zero n (xor_lt ha hb) h2)
theorem crcL_app (c : Nat) (us vs : List UInt8) : crcL c (us ++ vs) = crcL (crcL c us) vs := by
  unfold crcL
  rw [List.foldl_append]
theorem leN_four {T : List UInt8} (h : T.length = 4) : (leN T : Int) = leV T ∧ leN T < 4294967296 := by
  match T, h with
  | [a, b, c, d], _ =>
    have ha := a.toNat_lt
    have hb := b.toNat_lt
    have hc := c.toNat_lt
    have hd := d.toNat_lt
    have e : leN [a, b, c, d] = a.toNat + 256 * (b.toNat + 256 * (c.toNat + 256 * (d.toNat + 256 * 0))) := rfl
    have e2 : leV [a, b, c, d] = (a.toNat : Int) + 256 * (b.toNat : Int) + 65536 * (c.toNat : Int) + 16777216 * (d.toNat : Int) := rfl
    rw [e, e2]
    omega
theorem pass_iff {H T : List UInt8} (h : T.length = 4) : (leV T = ofX (bytesP H)) ↔ crcL M32 (H ++ T) = crcN 32 M32 := by
  obtain ⟨h1, h2⟩ := leN_four h
  have h3 : crcL M32 H < 4294967296 := crcL_lt H (by decide)
  have e : ofX (bytesP H) = ((crcL M32 H ^^^ M32 : Nat) : Int) := by
    unfold ofX onX
    rw [bytesOf_bytesP]
    rfl
  rw [crcL_app, crcL_wide T, h, e, ← h1]
  constructor
  · intro q
    have q2 : leN T = crcL M32 H ^^^ M32 := by omega
    rw [q2, ← Nat.xor_assoc, Nat.xor_self, Nat.zero_xor]
  · intro q
    have q2 := crcN_inj (n := 8 * 4) (xor_lt h3 h2) (by decide) q
    have q3 : leN T = crcL M32 H ^^^ M32 := by
      have q4 := congrArg (fun z => crcL M32 H ^^^ z) q2
      simp only [← Nat.xor_assoc, Nat.xor_self, Nat.zero_xor] at q4
      exact q4
    rw [q3]
theorem leN_inj : ∀ {us vs : List UInt8}, us.length = vs.length → leN us = leN vs → us = vs
  | [], [], _, _ => rfl
  | x :: us, y :: vs, hl, h => by
      have h2 : x.toNat + 256 * leN us = y.toNat + 256 * leN vs := h
      have hx := x.toNat_lt
      have hy := y.toNat_lt
      have e1 : x.toNat = y.toNat := by omega
      have e2 : leN us = leN vs := by omega
      rw [UInt8.toNat_inj.1 e1, leN_inj (by simpa using hl) e2]
/-- An image whose bits are turned within 32 is refused, just if one is turned. -/
theorem iget_burst {k : Int} {ps : List Pair} {os : List Owner} {d : Deps} (hd : rightDs d = true) (h : okSt k ps os) (hk : k ≤ 4611686018427387904) {bs : List UInt8} {p v : Nat} (hl : bs.length = (imgI d (cellsS ps os)).length) (hp : p ≤ 8 * bs.length) (hv : v < 4294967296) (he : leN bs = leN (imgI d (cellsS ps os)) ^^^ (2 ^ p * v)) : (igetX (bytesP bs)).2.2 = 0 ↔ v = 0 := by
  have hb := iget_back hd h hk
  obtain ⟨b, hbe⟩ : ∃ b, b = imgI d (cellsS ps os) := ⟨_, rfl⟩
  rw [← hbe] at hl he hb
  obtain ⟨H, hH⟩ : ∃ H, H = imgH d (cellsS ps os) := ⟨_, rfl⟩
  have hbI : b = H ++ le4 (ofX (bytesP H)) := by rw [hbe, hH]; rfl
  have hpass : crcL M32 b = crcN 32 M32 := by
    have hu := onX_range 0 (by decide) (bytesP H)
    rw [hbI]
    exact (pass_iff (le4_len _)).1 (leV_le4 hu)
  have hlb : 4 ≤ b.length := by rw [hbI, List.length_append, le4_len]; omega
  constructor
  · intro q
    refine Classical.byContradiction fun hv0 => ?_
    have hne : ¬ crcL M32 bs = crcN 32 M32 := fun hc => hv0 ((burst_seen (us := b) (bs := bs) (c := M32) hl.symm hv hp he).1 (by rw [hpass, hc]))
    have hsp : bs = bs.take (bs.length - 4) ++ bs.drop (bs.length - 4) := (List.take_append_drop _ _).symm
    have hT : (bs.drop (bs.length - 4)).length = 4 := by rw [List.length_drop]; omega
    have hne2 : ¬ leV (bs.drop (bs.length - 4)) = ofX (bytesP (bs.take (bs.length - 4))) := fun hc => hne (by
      have := (pass_iff (H := bs.take (bs.length - 4)) hT).1 hc
      rwa [List.take_append_drop] at this)
    have hw : getW4 (bytesP bs) (((bytesP bs).length : Int) - 4) = leV (bs.drop (bs.length - 4)) := by
      unfold getW4
      rw [bytesOf_bytesP, bytesP_length, show ((bs.length : Int) - 4).toNat = bs.length - 4 by omega]
    unfold igetX at q
    rw [if_neg (by rw [bytesP_length]; omega), hw, bytesP_length, bytesP_take, if_neg hne2] at q
    cases q
  · intro q
    rw [q, Nat.mul_zero, Nat.xor_zero] at he
    rw [leN_inj hl he, hb]
end Go.Proofs.Ytghkcmgiagodlaa
namespace Go.Proofs.Ytghkcmgiagodlaa
open Go.RowKit
set_option linter.all false
theorem prB_len2 {ps : List Pair} {n : Nat} (hl : ps.length ≤ n) (h2 : ∀ p ∈ ps, p.key.size ≤ 16 ∧ p.value.size ≤ 64 ∧ r64 p.version) : (prB ps).length ≤ 10 + 110 * n := by
  have a := prB1s_length h2
  have c := numB_length ps.length
  simp only [prB, List.length_append]
  have : 110 * ps.length ≤ 110 * n := Nat.mul_le_mul_left _ hl
  omega
theorem owB_len {k : Int} (hk : k ≤ 4611686018427387904) {o : Owner} (h : okOw k o) : (owB o).length ≤ 1000 := by
  obtain ⟨h1, h2, ⟨h3, h4, h5, h6, ps, h7, h8, h9⟩, h10⟩ := h
  have q := numB_length
  have q0 := q o.seq
  have q1 := q o.reply.why
  have q2 := q o.reply.version
  have q3 := textB_length o.reply.value
  have q4 := prB_len2 (ps := ps) h9 (fun p hp => by
    have := h8.2.2 p hp
    exact ⟨this.2.1, this.2.2.1, by have a := this.2.2.2.1; have b := this.2.2.2.2; unfold r64; omega⟩)
  unfold owB
  rw [h7, pairsOf_X]
  cases decide (o.seq = 0)
  · simp only [cond_false, List.length_append, List.length_singleton]
    omega
  · simp only [cond_true, List.length_append, List.length_nil]
    omega
theorem owsB_len {k : Int} (hk : k ≤ 4611686018427387904) : ∀ {os : List Owner}, (∀ o ∈ os, okOw k o) → ((os.map owB).flatten).length ≤ 1000 * os.length
  | [], _ => by simp
  | o :: os, h => by
      have h1 := owB_len hk (h o (by simp))
      have h2 := owsB_len hk (os := os) fun q hq => h q (by simp [hq])
      simp only [List.map_cons, List.flatten_cons, List.length_append, List.length_cons]
      omega
theorem img_len {k : Int} {ps : List Pair} {os : List Owner} (d : Deps) (h : okSt k ps os) (hk : k ≤ 4611686018427387904) : 5 ≤ (imgI d (cellsS ps os)).length ∧ (imgI d (cellsS ps os)).length ≤ 16384 := by
  have h1 := dpB_len d
  have h2 := prB_len2 (ps := ps) h.1.2.1 (fun p hp => by
    have := h.1.2.2 p hp
    exact ⟨this.2.1, this.2.2.1, by have a := this.2.2.2.1; have b := this.2.2.2.2; unfold r64; omega⟩)
  have h3 := owsB_len hk h.2.2
  have h8 := h.2.1
  have hn : 0 < (numB d.d0).length := numF_pos 9 _
  unfold imgI
  rw [imgH_eq d h, List.length_append, le4_len, List.length_append]
  unfold stB
  rw [List.length_append]
  have h9 : (dpB d).length = (numB d.d0).length + (numB d.d1).length + (numB d.d2).length + (numB d.d3).length + (numB d.d4).length + (numB d.d5).length + (numB d.d6).length := by simp only [dpB, List.length_append]
  omega
end Go.Proofs.Ytghkcmgiagodlaa
namespace Go.Proofs.Ytghkcmgiagodlaa
open Go.RowKit
set_option linter.all false
set_option maxHeartbeats 4000000
theorem within_r (n hi : Int) (h : 0 ≤ hi) : 0 ≤ within3 n 0 hi ∧ within3 n 0 hi ≤ hi := by
  unfold within3
  have h1 := Int.emod_nonneg n (show hi - 0 + 1 ≠ 0 by omega)
  have h2 := Int.emod_lt_of_pos n (show 0 < hi - 0 + 1 by omega)
  omega
theorem iget_st {ys : List (List PD)} (h : isB8 ys) : isSt (igetX ys).2.1 := by
  have hz : isSt zeroSt := zst_ok.is
  unfold igetX
  split
  · exact hz
  · split
    · unfold igetB
      simp only
      split
      · split
        · split
          · have hB : isB8 ((ys.take (ys.length - 4)).drop (dpsR (ys.take (ys.length - 4))).2.1.toNat) := by
              obtain ⟨bs, rfl, hb⟩ := h
              rw [bytesP_take, bytesP_drop]
              exact ⟨_, rfl, by rw [List.length_drop, List.length_take]; omega⟩
            obtain ⟨zs, hz1, hz2⟩ := hB
            have := (getSt_is hz2).1
            rw [← hz1] at this
            exact this
          · exact hz
        · exact hz
      · exact hz
    · exact hz
theorem bytesR (bs : List UInt8) : rowsD (bytesP bs) = bs.map fun b => .d (.sc (.int .u8 (b.toNat : Int))) := by
  induction bs with
  | nil => rfl
  | cons b bs ih => rw [List.map_cons, ← ih]; rfl
theorem bytesR_len (bs : List UInt8) : (rowsD (bytesP bs)).length = bs.length := by rw [bytesR, List.length_map]
theorem bytesR_gi {bs : List UInt8} {p : Nat} (h : p < bs.length) : A0.gi (rowsD (bytesP bs)) p = ((bs[p]'h).toNat : Int) := by
  simp [A0, bytesR, h]
theorem bytesR_has {bs : List UInt8} {p : Nat} (h : p < bs.length) (q : Nat) (hq : q = p) : A0.has (rowsD (bytesP bs)) q 1 [.d (.sc (.int .u8 (A0.gi (rowsD (bytesP bs)) q)))] := by
  subst hq
  rw [bytesR_gi h]
  refine ⟨rfl, by rw [bytesR_len]; omega, ?_⟩
  have : q < (rowsD (bytesP bs)).length := by rw [bytesR_len]; exact h
  rw [List.drop_eq_getElem_cons this]
  simp [bytesR]
theorem bytesR_spl {bs : List UInt8} {p n : Nat} (h : p < bs.length) (hn : n < 256) : A0.spl (rowsD (bytesP bs)) p [.d (.sc (.int .u8 (n : Int)))] = rowsD (bytesP (bs.set p (UInt8.ofNat n))) := by
  have h2 : p < (rowsD (bytesP bs)).length := by rw [bytesR_len]; exact h
  show splice (rowsD (bytesP bs)) p [_] = _
  rw [bytesR (bs.set p _), List.map_set, ← bytesR, splice, List.length_singleton, List.set_eq_take_append_cons_drop, if_pos h2]
  have : (UInt8.ofNat n).toNat = n := by simp; omega
  rw [this]
  simp
theorem xor_u8 (a b : Nat) (ha : a < 256) (hb : b < 256) : bitsV .u8 (· ^^^ ·) (a : Int) (b : Int) = ((a ^^^ b : Nat) : Int) := by
  show IntKind.wrap .u8 ((BitVec.ofInt 8 (a : Int) ^^^ BitVec.ofInt 8 (b : Int)).toNat : Int) = _
  have e : ∀ n : Nat, BitVec.ofInt 8 (n : Int) = BitVec.ofNat 8 n := fun n => by simp
  rw [e, e, BitVec.toNat_xor, BitVec.toNat_ofNat, BitVec.toNat_ofNat, Nat.mod_eq_of_lt (show a < 2 ^ 8 by omega), Nat.mod_eq_of_lt (show b < 2 ^ 8 by omega)]
  have := Nat.xor_lt_two_pow (n := 8) ha hb
  simp only [IntKind.wrap, IntKind.bits, IntKind.signed]
  simp
  omega
theorem shl_u8 (j : Nat) (h : j < 8) : A0.bin .shl .u8 1 (j : Int) = ((2 ^ j : Nat) : Int) := by
  have : ∀ j : Fin 8, A0.bin .shl .u8 1 ((j : Nat) : Int) = ((2 ^ (j : Nat) : Nat) : Int) := by decide
  exact this ⟨j, h⟩
theorem turn_at (q : Nat) (h : q < 1000000) : A0.off 0 (A0.bin .quo .i64 (q : Int) 8) 1 = q / 8 ∧ A0.bin .rem .i64 (q : Int) 8 = ((q % 8 : Nat) : Int) ∧ A0.bin .quo .i64 (q : Int) 8 = ((q / 8 : Nat) : Int) := by
  have e : A0.bin .quo .i64 (q : Int) 8 = ((q / 8 : Nat) : Int) := by
    show IntKind.wrap .i64 ((q : Int).tdiv 8) = _
    rw [show (q : Int).tdiv 8 = ((q / 8 : Nat) : Int) from rfl, wrap_i64 (by unfold r64; omega)]
  refine ⟨?_, rfl, e⟩
  rw [e]
  show 0 + ((q / 8 : Nat) : Int).toNat * 1 = _
  omega
theorem turn_cells {bs : List UInt8} {q : Nat} (h : q < 8 * bs.length) (hq : q < 1000000) : A0.spl (rowsD (bytesP bs)) (A0.off 0 (A0.bin .quo .i64 (q : Int) 8) 1) [.d (.sc (.int .u8 (A0.bin .xor .u8 (A0.gi (rowsD (bytesP bs)) (A0.off 0 (A0.bin .quo .i64 (q : Int) 8) 1)) (A0.bin .shl .u8 1 (A0.bin .rem .i64 (q : Int) 8)))))] = rowsD (bytesP (turnB bs q)) := by
  obtain ⟨h1, h2, _⟩ := turn_at q hq
  have hp : q / 8 < bs.length := by omega
  have hx := (bs[q / 8]'hp).toNat_lt
  rw [h1, h2, bytesR_gi hp, shl_u8 _ (Nat.mod_lt _ (by decide))]
  have e : A0.bin .xor .u8 ((bs[q / 8]'hp).toNat : Int) ((2 ^ (q % 8) : Nat) : Int) = (((bs[q / 8]'hp).toNat ^^^ 2 ^ (q % 8) : Nat) : Int) := xor_u8 _ _ hx (Nat.pow_lt_pow_right (m := q % 8) (n := 8) (by decide) (Nat.mod_lt _ (by decide)))
  rw [e, bytesR_spl hp (xor_byte _ _ hx (Nat.mod_lt _ (by decide)))]
  unfold turnB
  rw [List.getD_eq_getElem?_getD, List.getElem?_eq_getElem hp]
  rfl
theorem bit_u32 {burst : Int} (hb : u32 burst) {k : Nat} (hk : k < 32) : A0.cmp .eql (A0.bin .and .u32 (A0.bin .shr .u32 burst (k : Int)) 1) 1 = burst.toNat.testBit k := by
  obtain ⟨n, rfl⟩ : ∃ n : Nat, burst = (n : Int) := ⟨burst.toNat, by have := hb.1; omega⟩
  have e : A0.bin .shr .u32 (n : Int) (k : Int) = ((n / 2 ^ k : Nat) : Int) := by
    show (n : Int).fdiv (2 ^ (min (Int.toNat (k : Int)) (IntKind.bits .u32))) = _
    rw [Int.toNat_natCast, show min k (IntKind.bits .u32) = k from Nat.min_eq_left (by show k ≤ 32; omega), show (2 : Int) ^ k = ((2 ^ k : Nat) : Int) from (Int.natCast_pow 2 k).symm, Int.fdiv_eq_ediv_of_nonneg _ (Int.natCast_nonneg _)]
    rfl
  rw [e]
  have := and_u32 (n / 2 ^ k) (Nat.lt_of_le_of_lt (Nat.div_le_self _ _) (by have := hb.2; omega))
  show decide (bitsV .u32 (· &&& ·) ((n / 2 ^ k : Nat) : Int) 1 = 1) = _
  rw [this, Int.toNat_natCast, Nat.testBit_eq_decide_div_mod_eq]
  congr 1
  apply propext
  omega
structure BkS where
  i : Int
  cs : List DV
  t : Bool
def BkI (bI : List UInt8) (burst bit : Int) (x : BkS) : Prop := (0 ≤ x.i ∧ x.i ≤ 32) ∧ ∃ bs : List UInt8, x.cs = rowsD (bytesP bs) ∧ bs.length = bI.length ∧ leN bs = leN bI ^^^ (2 ^ bit.toNat * brst burst.toNat bI.length bit.toNat x.i.toNat) ∧ (x.t = true ↔ brst burst.toNat bI.length bit.toNat x.i.toNat ≠ 0)
theorem add_i64 {a b : Int} (h : r64 (a + b)) : A0.bin .add .i64 a b = a + b := wrap_i64 h
theorem lim_eq {bit i : Int} {m : Nat} (hm5 : 5 ≤ m ∧ m ≤ 16384) (hbr : 0 ≤ bit ∧ bit ≤ 8 * (m : Int) - 1) (hi : 0 ≤ i ∧ i ≤ 32) : A0.cmp .lss (A0.bin .add .i64 bit i) (A0.bin .mul .i64 8 (A0.int m)) = decide (bit + i < 8 * (m : Int)) := by
  have e3 : A0.bin .mul .i64 8 (A0.int m) = 8 * (m : Int) := by
    show IntKind.wrap .i64 (8 * (m : Int)) = _
    exact wrap_i64 (by unfold r64; omega)
  rw [e3, add_i64 (a := bit) (b := i) (by unfold r64; omega)]
  rfl
theorem last_bit {m : Nat} (hm5 : 5 ≤ m ∧ m ≤ 16384) : A0.bin .sub .i64 (A0.bin .mul .i64 8 (A0.int m)) 1 = 8 * (m : Int) - 1 := by
  show IntKind.wrap .i64 (IntKind.wrap .i64 (8 * (m : Int)) - 1) = _
  rw [wrap_i64 (a := 8 * (m : Int)) (by unfold r64; omega), wrap_i64 (a := 8 * (m : Int) - 1) (by unfold r64; omega)]
theorem cond_yes {a b : Bool} {p : Prop} [Decidable p] (h : A0.cond a b false = true) (hb : b = decide p) : a = true ∧ p := by
  revert h
  show (bif a then b else false) = true → _
  rw [hb]
  cases a with
  | false => intro q; exact absurd q Bool.false_ne_true
  | true => intro q; exact ⟨rfl, of_decide_eq_true q⟩
theorem cond_no {a b : Bool} {p : Prop} [Decidable p] (h : A0.cond a b false = false) (hb : b = decide p) : ¬ (a = true ∧ p) := by
  revert h
  show (bif a then b else false) = false → _
  rw [hb]
  cases a with
  | false => intro _ q; exact absurd q.1 Bool.false_ne_true
  | true => intro q q2; rw [decide_eq_true q2.2] at q; exact absurd q (by decide)
section
variable {bI : List UInt8} {burst bit i : Int} {cs : List DV} {tn : Bool} {m : Nat} (hb : u32 burst) (hm : m = bI.length) (hm5 : 5 ≤ m ∧ m ≤ 16384) (hbr : 0 ≤ bit ∧ bit ≤ 8 * (m : Int) - 1) (hx : BkI bI burst bit ⟨i, cs, tn⟩) (h32 : i < 32)
include hb hm hm5 hbr hx h32
theorem BkI.off (h : ¬ (A0.cmp .eql (A0.bin .and .u32 (A0.bin .shr .u32 burst i) 1) 1 = true ∧ bit + i < 8 * (m : Int))) : BkI bI burst bit ⟨A0.bin .add .i64 i 1, cs, tn⟩ := by
  obtain ⟨hi, bs, h1, h2, h3, h4⟩ := hx
  replace hi : 0 ≤ i ∧ i ≤ 32 := hi
  obtain ⟨k, rfl⟩ : ∃ k : Nat, i = (k : Int) := ⟨i.toNat, by omega⟩
  obtain ⟨b, rfl⟩ : ∃ b : Nat, bit = (b : Int) := ⟨bit.toNat, by omega⟩
  rw [bit_u32 hb (by omega)] at h
  have e : A0.bin .add .i64 (k : Int) 1 = ((k + 1 : Nat) : Int) := by rw [add_i64 (by unfold r64; omega)]; omega
  have hs := brst_step (burst := burst.toNat) (bit := b) (k := k) h2 h3
  have ht := brst_turned burst.toNat bI.length b k
  rw [if_neg (fun q => h ⟨q.1, by have := q.2; omega⟩)] at hs
  rw [e]
  refine ⟨⟨by simp only; omega, by simp only; omega⟩, bs, h1, h2, hs, ?_⟩
  show tn = true ↔ brst burst.toNat bI.length b (k + 1) ≠ 0
  rw [ht]
  exact ⟨fun q => .inl (h4.1 q), fun q => q.elim h4.2 fun q => absurd ⟨q.1, by omega⟩ h⟩
theorem BkI.on (h : A0.cmp .eql (A0.bin .and .u32 (A0.bin .shr .u32 burst i) 1) 1 = true) (h' : bit + i < 8 * (m : Int)) :
    A0.inb (A0.bin .quo .i64 (A0.bin .add .i64 bit i) 8) (A0.int m) ∧ A0.nn (A0.bin .rem .i64 (A0.bin .add .i64 bit i) 8) ∧ A0.has cs (A0.off 0 (A0.bin .quo .i64 (A0.bin .add .i64 bit i) 8) 1) 1 [DV.d (PD.sc (Value.int .u8 (A0.gi cs (A0.off 0 (A0.bin .quo .i64 (A0.bin .add .i64 bit i) 8) 1))))] ∧ A0.fits cs (A0.off 0 (A0.bin .quo .i64 (A0.bin .add .i64 bit i) 8) 1) 1 ∧
    BkI bI burst bit ⟨A0.bin .add .i64 i 1, A0.spl cs (A0.off 0 (A0.bin .quo .i64 (A0.bin .add .i64 bit i) 8) 1) [DV.d (PD.sc (Value.int .u8 (A0.bin .xor .u8 (A0.gi cs (A0.off 0 (A0.bin .quo .i64 (A0.bin .add .i64 bit i) 8) 1)) (A0.bin .shl .u8 1 (A0.bin .rem .i64 (A0.bin .add .i64 bit i) 8)))))], true⟩ := by
  obtain ⟨hi, bs, h1, h2, h3, h4⟩ := hx
  replace hi : 0 ≤ i ∧ i ≤ 32 := hi
  replace h1 : cs = rowsD (bytesP bs) := h1
  obtain ⟨k, rfl⟩ : ∃ k : Nat, i = (k : Int) := ⟨i.toNat, by omega⟩
  obtain ⟨b, rfl⟩ : ∃ b : Nat, bit = (b : Int) := ⟨bit.toNat, by omega⟩
  rw [bit_u32 hb (by omega)] at h
  have e : A0.bin .add .i64 (k : Int) 1 = ((k + 1 : Nat) : Int) := by rw [add_i64 (by unfold r64; omega)]; omega
  have e2 : A0.bin .add .i64 (b : Int) (k : Int) = ((b + k : Nat) : Int) := by rw [add_i64 (by unfold r64; omega)]; omega
  have hs := brst_step (burst := burst.toNat) (bit := b) (k := k) h2 h3
  have ht := brst_turned burst.toNat bI.length b k
  rw [if_pos ⟨h, by omega⟩] at hs
  obtain ⟨a1, a2, a3⟩ := turn_at (b + k) (by omega)
  rw [e, e2, h1]
  refine ⟨?_, ?_, ?_, ?_, ⟨by simp only; omega, by simp only; omega⟩, turnB bs (b + k), turn_cells (by omega) (by omega), by rw [turnB_len, h2], hs, ?_⟩
  · rw [a3]
    show 0 ≤ (((b + k) / 8 : Nat) : Int) ∧ (((b + k) / 8 : Nat) : Int) < (m : Int)
    omega
  · rw [a2]
    show 0 ≤ (((b + k) % 8 : Nat) : Int)
    omega
  · rw [a1]
    exact bytesR_has (p := (b + k) / 8) (by omega) _ rfl
  · rw [a1]
    show (b + k) / 8 + 1 ≤ _
    rw [bytesR_len]
    omega
  · show true = true ↔ brst burst.toNat bI.length b (k + 1) ≠ 0
    rw [ht]
    exact ⟨fun _ => .inr ⟨h, by omega⟩, fun _ => rfl⟩
end
end Go.Proofs.Ytghkcmgiagodlaa
namespace Go.Proofs.Ytghkcmgiagodlaa
open Go.RowKit
set_option linter.all false
theorem wf_r64 {n : Int} (h : (Lit.int .i64 n).wf = true) : r64 n := by
  simp only [Lit.wf, Bool.and_eq_true, decide_eq_true_eq] at h
  exact h
theorem FitL.split : ∀ {a b : List Sh} {ps : List PD}, FitL (a ++ b) ps → ∃ p q, ps = p ++ q ∧ FitL a p ∧ FitL b q
  | [], _, ps, h => ⟨[], ps, rfl, by simp only [FitL], h⟩
  | s :: a, b, ps, h => by
      simp only [List.cons_append, FitL] at h
      obtain ⟨p, qs, rfl, h1, h2⟩ := h
      obtain ⟨p', q', rfl, h3, h4⟩ := FitL.split h2
      exact ⟨p :: p', q', rfl, by simp only [FitL]; exact ⟨p, p', rfl, h1, h3⟩, h4⟩
theorem fit_int {ps : List PD} (h : FitL [.int .i64] ps) : ∃ n, ps = [.sc (.int .i64 n)] ∧ r64 n := by
  simp only [FitL, FitP] at h
  obtain ⟨_, _, rfl, ⟨n, rfl, hn⟩, rfl⟩ := h
  exact ⟨n, rfl, wf_r64 hn⟩
theorem fit_cmds : ∀ (xs : List (List PD)), (∀ x ∈ xs, FitL [.int .i64, .int .i64, .int .i64, .str, .str, .str, .str] x) → ∃ l : List Cmd, xs = cmdsX l
  | [], _ => ⟨[], rfl⟩
  | x :: xs, h => by
      obtain ⟨l, rfl⟩ := fit_cmds xs (fun y hy => h y (by simp [hy]))
      have h0 := h x (by simp)
      simp only [FitL, FitP] at h0
      obtain ⟨_, _, rfl, ⟨a, rfl, _⟩, _, _, rfl, ⟨b, rfl, _⟩, _, _, rfl, ⟨c, rfl, _⟩, _, _, rfl, ⟨d, rfl, _⟩, _, _, rfl, ⟨e, rfl, _⟩, _, _, rfl, ⟨f, rfl, _⟩, _, _, rfl, ⟨g, rfl, _⟩, rfl⟩ := h0
      exact ⟨⟨a, b, c, d, e, f, g⟩ :: l, rfl⟩
theorem wt_cmds : ∀ l : List Cmd, l.length ≤ wtR (cmdsX l)
  | [] => by simp
  | c :: l => by
      have e : cmdsX (c :: l) = c.row :: cmdsX l := rfl
      have h := wt_cmds l
      rw [e]
      simp only [wtR, Cmd.row, wtL, wtP, List.length_cons]
      omega
theorem fit_cmdR {ps : List PD} (h : FitL [.slc [.int .i64, .int .i64, .int .i64, .str, .str, .str, .str]] ps) (hw : wtL ps ≤ 1048576) : ∃ xs, ps = [.slc 7 xs] ∧ isC xs := by
  simp only [FitL, FitP] at h
  obtain ⟨_, _, rfl, ⟨xs, rfl, hx⟩, rfl⟩ := h
  obtain ⟨l, rfl⟩ := fit_cmds xs hx
  simp only [wtL, wtP] at hw
  have := wt_cmds l
  exact ⟨_, rfl, l, rfl, by omega⟩
end Go.Proofs.Ytghkcmgiagodlaa
namespace Go.Proofs.Ytghkcmgiagodlaa
open Go.RowKit
set_option linter.all false
theorem wf_r64I {n : Int} (h : (Lit.int .i64 n).wf = true) : r64 n := by
  simp only [Lit.wf, Bool.and_eq_true, decide_eq_true_eq] at h
  exact h
theorem fit_deps {ps : List PD} (h : FitL [.int .i64, .int .i64, .int .i64, .int .i64, .int .i64, .int .i64, .int .i64] ps) (hw : wtL ps ≤ 1048576) : ∃ a0 a1 a2 a3 a4 a5 a6 : Int, ps = [.sc (.int .i64 a0), .sc (.int .i64 a1), .sc (.int .i64 a2), .sc (.int .i64 a3), .sc (.int .i64 a4), .sc (.int .i64 a5), .sc (.int .i64 a6)] ∧ rDeps ⟨a0, a1, a2, a3, a4, a5, a6⟩ := by
  simp only [FitL, FitP] at h
  obtain ⟨_, _, rfl, ⟨a0, rfl, h0⟩, _, _, rfl, ⟨a1, rfl, h1⟩, _, _, rfl, ⟨a2, rfl, h2⟩, _, _, rfl, ⟨a3, rfl, h3⟩, _, _, rfl, ⟨a4, rfl, h4⟩, _, _, rfl, ⟨a5, rfl, h5⟩, _, _, rfl, ⟨a6, rfl, h6⟩, rfl⟩ := h
  exact ⟨a0, a1, a2, a3, a4, a5, a6, rfl, wf_r64I h0, wf_r64I h1, wf_r64I h2, wf_r64I h3, wf_r64I h4, wf_r64I h5, wf_r64I h6⟩
theorem wf_u32I {n : Int} (h : (Lit.int .u32 n).wf = true) : u32 n := by
  simp only [Lit.wf, Bool.and_eq_true, decide_eq_true_eq] at h
  have h1 := h.1
  have h2 := h.2
  exact ⟨h1, Int.lt_of_le_of_lt h2 (by decide)⟩
theorem fit_u32 {ps : List PD} (h : FitL [.int .u32] ps) : ∃ n, ps = [.sc (.int .u32 n)] ∧ u32 n := by
  simp only [FitL, FitP] at h
  obtain ⟨_, _, rfl, ⟨n, rfl, hn⟩, rfl⟩ := h
  exact ⟨n, rfl, wf_u32I hn⟩
end Go.Proofs.Ytghkcmgiagodlaa
namespace Go.Proofs.Ytghkcmgiagodlaa
open Go.RowKit
set_option linter.all false
set_option maxHeartbeats 4000000
structure FsI2 where
  iruns2 : Bool
def FsI20 : FsI2 where
  iruns2 := runs21
def kn_iruns2 (F : FsI2) : FuncId × (List DV → RV) := (3, fun args => match args with
  | [] => some ([], boolD F.iruns2)
  | _ => none)
theorem ok_iruns2 (args : List DV) (cs : List Prop) (r : DV) (h : (kn_iruns2 FsI20).2 args = some (cs, r)) (hc : allP cs True) : FnV Try.prog 3 args r ∧ closedL 0 args = true := by
  unfold kn_iruns2 at h
  simp only at h
  split at h
  · cases h; exact ⟨v_iruns2, rfl⟩
  · cases h
set_option maxRecDepth 1000000 in
theorem v_iback (d0 d1 d2 d3 d4 d5 d6 at_ burst : Int) (xs : List (List PD)) (hd : r64 d0 ∧ r64 d1 ∧ r64 d2 ∧ r64 d3 ∧ r64 d4 ∧ r64 d5 ∧ r64 d6) (hp0 : isC xs) (hat : r64 at_) (hbu : u32 burst) : FnV Try.prog 9 [.agg [.d (.sc (.int .i64 d0)), .d (.sc (.int .i64 d1)), .d (.sc (.int .i64 d2)), .d (.sc (.int .i64 d3)), .d (.sc (.int .i64 d4)), .d (.sc (.int .i64 d5)), .d (.sc (.int .i64 d6))], .d (.slc 7 xs), .d (.sc (.int .i64 at_)), .d (.sc (.int .u32 burst))] (boolD true) := by
  obtain ⟨ps, os, rs, hpl, hok⟩ := play0 hp0
  obtain ⟨s0, hs0⟩ : ∃ s0, s0 = cellsS ps os := ⟨_, rfl⟩
  have hs0S : isSt s0 := by rw [hs0]; exact hok.is
  have hs0l := hs0S.len
  have hs0c := hs0S.closed
  rw [← hs0] at hpl
  obtain ⟨rr, hrr⟩ : ∃ rr, rr = repsX rs := ⟨_, rfl⟩
  rw [← hrr] at hpl
  obtain ⟨w0, hw0⟩ : ∃ w, w = within3 d0 0 1073741824 := ⟨_, rfl⟩
  have hwr0 := within_r d0 1073741824 (by decide)
  rw [← hw0] at hwr0
  obtain ⟨w1, hw1⟩ : ∃ w, w = within3 d1 0 1073741824 := ⟨_, rfl⟩
  have hwr1 := within_r d1 1073741824 (by decide)
  rw [← hw1] at hwr1
  obtain ⟨w2, hw2⟩ : ∃ w, w = within3 d2 0 1073741824 := ⟨_, rfl⟩
  have hwr2 := within_r d2 1073741824 (by decide)
  rw [← hw2] at hwr2
  obtain ⟨w3, hw3⟩ : ∃ w, w = within3 d3 0 1073741824 := ⟨_, rfl⟩
  have hwr3 := within_r d3 1073741824 (by decide)
  rw [← hw3] at hwr3
  obtain ⟨w4, hw4⟩ : ∃ w, w = within3 d4 0 1073741824 := ⟨_, rfl⟩
  have hwr4 := within_r d4 1073741824 (by decide)
  rw [← hw4] at hwr4
  obtain ⟨w5, hw5⟩ : ∃ w, w = within3 d5 0 1073741824 := ⟨_, rfl⟩
  have hwr5 := within_r d5 1073741824 (by decide)
  rw [← hw5] at hwr5
  obtain ⟨w6, hw6⟩ : ∃ w, w = within3 d6 0 1073741824 := ⟨_, rfl⟩
  have hwr6 := within_r d6 1073741824 (by decide)
  rw [← hw6] at hwr6
  have hrD : rightDs ⟨w0, w1, w2, w3, w4, w5, w6⟩ = true := by
    simp only [rightDs, okK, Bool.and_eq_true, decide_eq_true_eq]
    omega
  obtain ⟨bI, hbI⟩ : ∃ b, b = imgI ⟨w0, w1, w2, w3, w4, w5, w6⟩ s0 := ⟨_, rfl⟩
  have hlen := img_len ⟨w0, w1, w2, w3, w4, w5, w6⟩ hok (by decide)
  rw [← hs0, ← hbI] at hlen
  have hback := iget_back hrD hok (by decide)
  rw [← hs0, ← hbI] at hback
  have hIP := w_iput ⟨w0, w1, w2, w3, w4, w5, w6⟩ s0 hs0S (by rw [hs0]; exact hok.v (by decide)) (by rw [hs0]; exact img_small hok (by decide)) (rightDs_r hrD) (by rw [hs0]; exact hok.right) hrD
  rw [← hbI] at hIP
  obtain ⟨ls, hls⟩ : ∃ ls, ls = shortX xs := ⟨_, rfl⟩
  rw [← hls] at hpl
  have hlsC : isC ls := by rw [hls]; exact hp0.short
  obtain ⟨GFsPq, hFsPq⟩ : ∃ F, F = FsPq0 := ⟨_, rfl⟩
  obtain ⟨GFsS6, hFsS6⟩ : ∃ F, F = FsS60 := ⟨_, rfl⟩
  obtain ⟨GFsS4, hFsS4⟩ : ∃ F, F = FsS40 := ⟨_, rfl⟩
  obtain ⟨GFsI2, hFsI2⟩ : ∃ F, F = FsI20 := ⟨_, rfl⟩
  have hH : SoundK Try.prog [kn_within3 GFsPq, kn_play GFsS6, kn_sameSt GFsS4, kn_iruns2 GFsI2] := by subst hFsPq hFsS6 hFsS4 hFsI2; exact orK_ok ok_within3 (orK_ok ok_play (orK_ok ok_sameSt (orK_ok ok_iruns2 noK_ok)))
  have hB : SoundB Try.prog [] := by subst hFsPq hFsS6 hFsS4 hFsI2; exact noB_ok
  refine FnD_cbv (T := fun _ => tabY [99, 107, 1010, 1014, 1020, 1041, 1044, 1050, 1060, 1061, 1112, 1037, 1040, 5003, 5004] [7, 12, 18]) (H := fun _ => [kn_within3 GFsPq, kn_play GFsS6, kn_sameSt GFsS4, kn_iruns2 GFsI2]) (tabY_ok _ _) hH follows_mixed Try.func9 rfl Try.ntmps9 (by simp) fun A X W hA hX hW => ?_
  cbv
  have l0 : A.cmp .lss 0 7 = true := by subst hA; rfl
  cbv at l0
  have l1 : A.cmp .lss 1 7 = true := by subst hA; rfl
  cbv at l1
  have l2 : A.cmp .lss 2 7 = true := by subst hA; rfl
  cbv at l2
  have l3 : A.cmp .lss 3 7 = true := by subst hA; rfl
  cbv at l3
  have l4 : A.cmp .lss 4 7 = true := by subst hA; rfl
  cbv at l4
  have l5 : A.cmp .lss 5 7 = true := by subst hA; rfl
  cbv at l5
  have l6 : A.cmp .lss 6 7 = true := by subst hA; rfl
  cbv at l6
  have l7 : A.cmp .lss 7 7 = false := by subst hA; rfl
  cbv at l7
  have b0 : A.bin .add .i64 0 1 = 1 := by subst hA; rfl
  cbv at b0
  have b1 : A.bin .add .i64 1 1 = 2 := by subst hA; rfl
  cbv at b1
  have b2 : A.bin .add .i64 2 1 = 3 := by subst hA; rfl
  cbv at b2
  have b3 : A.bin .add .i64 3 1 = 4 := by subst hA; rfl
  cbv at b3
  have b4 : A.bin .add .i64 4 1 = 5 := by subst hA; rfl
  cbv at b4
  have b5 : A.bin .add .i64 5 1 = 6 := by subst hA; rfl
  cbv at b5
  have b6 : A.bin .add .i64 6 1 = 7 := by subst hA; rfl
  cbv at b6
  have o0_0 : A.off 0 0 1 = 0 := by subst hA; rfl
  cbv at o0_0
  have o0_1 : A.off 0 1 1 = 1 := by subst hA; rfl
  cbv at o0_1
  have o0_2 : A.off 0 2 1 = 2 := by subst hA; rfl
  cbv at o0_2
  have o0_3 : A.off 0 3 1 = 3 := by subst hA; rfl
  cbv at o0_3
  have o0_4 : A.off 0 4 1 = 4 := by subst hA; rfl
  cbv at o0_4
  have o0_5 : A.off 0 5 1 = 5 := by subst hA; rfl
  cbv at o0_5
  have o0_6 : A.off 0 6 1 = 6 := by subst hA; rfl
  cbv at o0_6
  have x0 : GFsPq.within3 d0 0 1073741824 = w0 := by subst hFsPq; exact hw0.symm
  cbv at x0
  have x1 : GFsPq.within3 d1 0 1073741824 = w1 := by subst hFsPq; exact hw1.symm
  cbv at x1
  have x2 : GFsPq.within3 d2 0 1073741824 = w2 := by subst hFsPq; exact hw2.symm
  cbv at x2
  have x3 : GFsPq.within3 d3 0 1073741824 = w3 := by subst hFsPq; exact hw3.symm
  cbv at x3
  have x4 : GFsPq.within3 d4 0 1073741824 = w4 := by subst hFsPq; exact hw4.symm
  cbv at x4
  have x5 : GFsPq.within3 d5 0 1073741824 = w5 := by subst hFsPq; exact hw5.symm
  cbv at x5
  have x6 : GFsPq.within3 d6 0 1073741824 = w6 := by subst hFsPq; exact hw6.symm
  cbv at x6
  have p1 : GFsS6.play Z49 ls = (s0, rr) := by subst hFsS6; exact hpl
  have k1 : A.cmp .neq 0 0 = false := by subst hA; rfl
  have k6 : A.and true true = true := by subst hA; rfl
  have k7 : A.not true = false := by subst hA; rfl
  have k8 : A.cond false true false = false := by subst hA; rfl
  have ss : GFsS4.sameSt s0 s0 = true := by subst hFsS4; exact sameSt_refl s0
  have q0 : A.cmp .eql w0 w0 = true := by subst hA; exact decide_eq_true rfl
  cbv at q0
  have q1 : A.cmp .eql w1 w1 = true := by subst hA; exact decide_eq_true rfl
  cbv at q1
  have q2 : A.cmp .eql w2 w2 = true := by subst hA; exact decide_eq_true rfl
  cbv at q2
  have q3 : A.cmp .eql w3 w3 = true := by subst hA; exact decide_eq_true rfl
  cbv at q3
  have q4 : A.cmp .eql w4 w4 = true := by subst hA; exact decide_eq_true rfl
  cbv at q4
  have q5 : A.cmp .eql w5 w5 = true := by subst hA; exact decide_eq_true rfl
  cbv at q5
  have q6 : A.cmp .eql w6 w6 = true := by subst hA; exact decide_eq_true rfl
  cbv at q6
  cbv at p1
  cbv at k1
  cbv at k6
  cbv at k7
  cbv at k8
  cbv at ss
  by_cases h60 : 60 < xs.length
  · have hl2 : ls = xs.take 60 := by rw [hls]; unfold shortX; rw [if_pos h60]
    have g1 : A.cmp .gtr (A.len xs) 60 = true := by subst hA; show decide ((60 : Int) < (xs.length : Int)) = true; exact decide_eq_true (by omega)
    have g2 : A.sub xs 0 60 = ls := by subst hA; rw [hl2]; rfl
    cbv at g1
    cbv at g2
    refine unrollL (T := fun _ => tabY [99, 107, 1010, 1014, 1020, 1041, 1044, 1050, 1060, 1061, 1112, 1037, 1040, 5003, 5004] [7, 12, 18]) (H := fun _ => [kn_within3 GFsPq, kn_play GFsS6, kn_sameSt GFsS4, kn_iruns2 GFsI2]) (tabY_ok _ _) hH follows_mixed hA hX 8 fun R hR => ?_
    cbv
    repeat' first
      | (simp only [l0, l1, l2, l3, l4, l5, l6, l7, b0, b1, b2, b3, b4, b5, b6, o0_0, o0_1, o0_2, o0_3, o0_4, o0_5, o0_6, x0, x1, x2, x3, x4, x5, x6, g1, g2, decide_true]; cbv)
      | (refine And.intro ?_ ?_)
      | (refine hR _ _ _ ?_; cbv)
      | (refine part (fun h => ?_) (fun h => ?_) <;> try cbv)
    rotate_right 1
    · (with_reducible refine goL (c := .region 7 _ _) (T := fun _ => tabY [99, 107, 1010, 1014, 1020, 1041, 1044, 1050, 1060, 1061, 1112, 1037, 1040, 5003, 5004] []) (H := fun _ => [kn_within3 GFsPq, kn_play GFsS6, kn_sameSt GFsS4, kn_iruns2 GFsI2]) (tabY_ok _ _) hH follows_mixed hA hX ?_) <;> cbv
      simp only [p1]
      cbv
      repeat' (refine And.intro ?_ ?_)
      rotate_right 1
      · refine callL hX (FnD.newRow hIP (by simp [closedL, closedD, hs0c]; rfl) fun v c m hc hm => ?_)
        have hcc : closedL 0 c = true := by rw [hc]; exact rows_closed _
        have hm5 : 5 ≤ m ∧ m ≤ 16384 := by rw [hm]; exact hlen
        have hG1 : FnD Try.prog 11 [.view 1 0 v 0 m] [⟨5, c, true, v, true⟩] (fun r st' => r = .tup [.agg [.d (.sc (.int .i64 w0)), .d (.sc (.int .i64 w1)), .d (.sc (.int .i64 w2)), .d (.sc (.int .i64 w3)), .d (.sc (.int .i64 w4)), .d (.sc (.int .i64 w5)), .d (.sc (.int .i64 w6))], .agg s0, .d (.sc (.int .i64 0))] ∧ st' = [⟨5, c, true, v, true⟩]) := by
          have := w_iget (bytesP bI) (bytesP bI) c v m ⟨bI, rfl, by omega⟩ hc (by rw [bytesP_length]; omega) (by rw [bytesP_take, hm, List.take_length])
          rw [hback] at this
          exact this
        have k2 : A.cmp .gtr (A.int m) 16384 = false := by subst hA; show decide ((16384 : Int) < (m : Int)) = false; exact decide_eq_false (by omega)
        cbv at k2
        cbv
        refine callL hX (FnD.rowKeep 2 hG1 rfl rfl (by simp [closedL, closedD, hs0c]) hcc ?_)
        cbv
        repeat' first
          | (simp only [k1, k2, q0, q1, q2, q3, q4, q5, q6, k6, k7, k8, ss]; cbv)
          | (refine And.intro ?_ ?_)
          | (refine part (fun h => ?_) (fun h => ?_) <;> try cbv)
        rotate_right 1
        · (with_reducible refine goL (c := .region 12 _ _) (T := fun _ => tabY [99, 107, 1010, 1014, 1020, 1041, 1044, 1050, 1060, 1061, 1112, 1037, 1040, 5003, 5004] []) (H := fun _ => [kn_within3 GFsPq, kn_play GFsS6, kn_sameSt GFsS4, kn_iruns2 GFsI2]) (tabY_ok _ _) hH follows_mixed hA hX ?_) <;> cbv
          repeat' (refine And.intro ?_ ?_)
          rotate_right 1
          · obtain ⟨bit, hbit⟩ : ∃ b, b = GFsPq.within3 at_ 0 (A.bin .sub .i64 (A.bin .mul .i64 8 (A.int m)) 1) := ⟨_, rfl⟩
            have hbr : 0 ≤ bit ∧ bit ≤ 8 * (m : Int) - 1 := by
              rw [hbit]
              subst hFsPq hA
              rw [last_bit hm5]
              exact within_r at_ _ (by omega)
            cbv at hbit
            simp only [← hbit]
            clear hbit
            refine loopL (T := fun _ => tabY [99, 107, 1010, 1014, 1020, 1041, 1044, 1050, 1060, 1061, 1112, 1037, 1040, 5003, 5004] [7, 12, 18]) (H := fun _ => [kn_within3 GFsPq, kn_play GFsS6, kn_sameSt GFsS4, kn_iruns2 GFsI2]) (tabY_ok _ _) hH follows_mixed hA hX (BkI bI burst bit)
              (fun x : BkS => [(3, .d (.sc (.int .u32 burst))), (12, .view 1 2 v 0 m), (16, .d (.sc (.int .i64 bit))), (17, .d (.sc (.bool x.t))), (18, .d (.sc (.int .i64 x.i)))])
              (fun x => [⟨25, [.d (.sc (.int .i64 w0)), .d (.sc (.int .i64 w1)), .d (.sc (.int .i64 w2)), .d (.sc (.int .i64 w3)), .d (.sc (.int .i64 w4)), .d (.sc (.int .i64 w5)), .d (.sc (.int .i64 w6))], false, 0, true⟩, ⟨34, s0, false, 0, true⟩, ⟨5, x.cs, true, v, true⟩, ⟨25, [.d (.sc (.int .i64 w0)), .d (.sc (.int .i64 w1)), .d (.sc (.int .i64 w2)), .d (.sc (.int .i64 w3)), .d (.sc (.int .i64 w4)), .d (.sc (.int .i64 w5)), .d (.sc (.int .i64 w6))], false, 0, true⟩, ⟨34, s0, false, 0, true⟩]) (fun x => 32 - x.i.toNat) ⟨0, c, false⟩ ?_ ?_ ?_
            · refine ⟨⟨by simp only; omega, by simp only; omega⟩, bI, hc, rfl, ?_, ?_⟩
              · show leN bI = leN bI ^^^ (2 ^ bit.toNat * 0)
                rw [Nat.mul_zero, Nat.xor_zero]
              · show false = true ↔ (0 : Nat) ≠ 0
                simp
            · exact told_less (by simp [toldP, getS])
            rintro R9 ⟨i, cs, tn⟩ hR9 ⟨hi, bs, hcs, hbl, hle, htn⟩
            replace hi : 0 ≤ i ∧ i ≤ 32 := hi
            replace hcs : cs = rowsD (bytesP bs) := hcs
            replace hle : leN bs = leN bI ^^^ (2 ^ bit.toNat * brst burst.toNat bI.length bit.toNat i.toNat) := hle
            replace htn : tn = true ↔ brst burst.toNat bI.length bit.toNat i.toNat ≠ 0 := htn
            cbv
            repeat' first
              | (refine And.intro ?_ ?_)
              | (refine part (fun h => ?_) (fun h => ?_) <;> try cbv)
              | ((with_reducible refine regionZ (T := fun _ => tabY [99, 107, 1010, 1014, 1020, 1041, 1044, 1050, 1060, 1061, 1112, 1037, 1040, 5003, 5004] []) (H := fun _ => [kn_within3 GFsPq, kn_play GFsS6, kn_sameSt GFsS4, kn_iruns2 GFsI2]) (A := A) (tabY_ok _ _) hH follows_mixed hA hX (by kernel_rfl) ?_) <;> cbv)
            rotate_right 1
            · obtain ⟨q, hq⟩ : ∃ q, q = igetX (bytesP bs) := ⟨_, rfl⟩
              obtain ⟨⟨e0, e1, e2, e3, e4, e5, e6⟩, s2, f2⟩ := q
              have hbB : isB8 (bytesP bs) := ⟨bs, rfl, by omega⟩
              have hs2 : isSt s2 := by
                have := iget_st hbB
                rw [← hq] at this
                exact this
              have hcl2 := hs2.closed
              have ls2 := hs2.len
              have hcc2 : closedL 0 cs = true := by rw [hcs]; exact rows_closed _
              have hG2 : FnD Try.prog 11 [.view 1 0 v 0 m] [⟨5, cs, true, v, true⟩] (fun r st' => r = .tup [.agg [.d (.sc (.int .i64 e0)), .d (.sc (.int .i64 e1)), .d (.sc (.int .i64 e2)), .d (.sc (.int .i64 e3)), .d (.sc (.int .i64 e4)), .d (.sc (.int .i64 e5)), .d (.sc (.int .i64 e6))], .agg s2, .d (.sc (.int .i64 f2))] ∧ st' = [⟨5, cs, true, v, true⟩]) := by
                have := w_iget (bytesP bs) (bytesP bs) cs v m hbB hcs (by rw [bytesP_length]; omega) (by rw [bytesP_take, List.take_of_length_le (by omega)])
                rw [← hq] at this
                exact this
              refine callL hX (FnD.rowKeep 2 hG2 rfl rfl (by simp [closedL, closedD, hcl2]) hcc2 ?_)
              cbv
              repeat' first
                | (refine And.intro ?_ ?_)
                | (refine part (fun h => ?_) (fun h => ?_) <;> try cbv)
              · subst hA; exact rfl
              · subst hA; exact rfl
              · subst hA; show s2.length = 49 * 1; exact ls2
              · subst hA; intro q9; show (_ == true) = true; rw [q9]; rfl
              · subst hA hW hFsI2
                have e9 : i = 32 := by
                  have q9 : A0.cmp .lss i 32 = false := by assumption
                  have := of_decide_eq_false q9
                  omega
                have hq2 : bit ≤ 8 * ((bs.length : Nat) : Int) - 1 := by rw [hbl, ← hm]; exact hbr.2
                have hq3 : bit.toNat ≤ 8 * bs.length := by clear hbr; omega
                have hb9 := iget_burst (d := ⟨w0, w1, w2, w3, w4, w5, w6⟩) hrD hok (by decide) (bs := bs) (p := bit.toNat) (v := brst burst.toNat bI.length bit.toNat 32) (by rw [← hs0, ← hbI]; exact hbl) hq3 (brst_lt _ _ _ 32) (by rw [← hs0, ← hbI, hle, e9]; rfl)
                rw [← hq] at hb9
                replace hb9 : f2 = 0 ↔ brst burst.toNat bI.length bit.toNat 32 = 0 := hb9
                rw [e9] at htn
                replace htn : tn = true ↔ brst burst.toNat bI.length bit.toNat 32 ≠ 0 := htn
                refine ret_v (congrArg boolD ?_) rfl
                show (bif decide (decide (f2 = 0) = !tn) then true else false) = true
                have : decide (f2 = 0) = !tn := by
                  by_cases q9 : f2 = 0
                  · have q8 : ¬ tn = true := fun q => htn.1 q (hb9.1 q9)
                    rw [decide_eq_true q9, Bool.eq_false_iff.2 q8]
                    rfl
                  · have q8 : tn = true := htn.2 fun q => q9 (hb9.2 q)
                    rw [decide_eq_false q9, q8]
                    rfl
                rw [this]
                simp
            all_goals subst hA hX
            all_goals have h32 : i < 32 := of_decide_eq_true (show A0.cmp .lss i 32 = true from by assumption)
            all_goals have hBk : BkI bI burst bit ⟨i, cs, tn⟩ := ⟨hi, bs, hcs, hbl, hle, htn⟩
            all_goals have ei : A0.bin .add .i64 i 1 = i + 1 := add_i64 (by unfold r64; omega)
            all_goals have e2 := lim_eq hm5 hbr hi
            all_goals first
              | exact hi.1
              | exact id
              | exact fun _ => trivial
              | exact rfl
              | exact fun _ => rfl
              | (show (8 : Int) ≠ 0; decide)
              | (intro q; exact beq_iff_eq.2 q)
              | (have hc9 : A0.cond (A0.cmp .eql (A0.bin .and .u32 (A0.bin .shr .u32 burst i) 1) 1) (A0.cmp .lss (A0.bin .add .i64 bit i) (A0.bin .mul .i64 8 (A0.int m))) false = true := by assumption
                 have hb1 := cond_yes hc9 e2
                 have hon := hBk.on hbu hm hm5 hbr h32 hb1.1 hb1.2
                 first
                   | exact hon.1
                   | exact hon.2.1
                   | exact hon.2.2.1
                   | exact hon.2.2.2.1
                   | (rw [hR9]
                      refine ⟨⟨_, _, true⟩, hon.2.2.2.2, ?_, told_less (by simp [toldP, getS])⟩
                      show 32 - (A0.bin .add .i64 i 1).toNat < 32 - i.toNat
                      rw [ei]
                      omega))
              | (have hc9 : A0.cond (A0.cmp .eql (A0.bin .and .u32 (A0.bin .shr .u32 burst i) 1) 1) (A0.cmp .lss (A0.bin .add .i64 bit i) (A0.bin .mul .i64 8 (A0.int m))) false = false := by assumption
                 have hb1 := cond_no hc9 e2
                 rw [hR9]
                 refine ⟨⟨_, _, tn⟩, hBk.off hbu hm hm5 hbr h32 hb1, ?_, told_less (by simp [toldP, getS])⟩
                 show 32 - (A0.bin .add .i64 i 1).toNat < 32 - i.toNat
                 rw [ei]
                 omega)
          all_goals subst hA hFsPq
          all_goals first
            | exact rfl
            | exact hat
            | (show (0 : Int) ≤ A0.bin .sub .i64 (A0.bin .mul .i64 8 (A0.int m)) 1 ∧ (-1099511627776 : Int) ≤ 0 ∧ A0.bin .sub .i64 (A0.bin .mul .i64 8 (A0.int m)) 1 ≤ 1099511627776
               rw [last_bit hm5]
               omega)
        all_goals subst hA hFsS6 hFsS4 hFsPq
        all_goals first
                       | exact rfl
                       | exact id
                       | exact fun _ => trivial
                       | exact fun _ => rfl
                       | exact fun _ => hs0l
                       | exact fun _ => hs0S
                       | exact hs0l
                       | exact hs0S
                       | exact hlsC
                       | exact z49
                       | (show Region.lexB _ _ = true; kernel_rfl)
                       | (show turnsB _ = true; kernel_rfl)
                       | assumption
                       | skip
      all_goals subst hA hFsS6 hFsS4 hFsPq
      all_goals first
                     | exact rfl
                     | exact id
                     | exact fun _ => trivial
                     | exact fun _ => rfl
                     | exact fun _ => hs0l
                     | exact fun _ => hs0S
                     | exact hs0l
                     | exact hs0S
                     | exact hlsC
                     | exact z49
                     | (show Region.lexB _ _ = true; kernel_rfl)
                     | (show turnsB _ = true; kernel_rfl)
                     | assumption
                     | skip
    all_goals subst hA hFsS6 hFsS4 hFsPq
    all_goals first
                   | exact rfl
                   | exact id
                   | exact fun _ => trivial
                   | exact fun _ => rfl
                   | exact fun _ => hs0l
                   | exact fun _ => hs0S
                   | exact hs0l
                   | exact hs0S
                   | exact hlsC
                   | exact z49
                   | (show Region.lexB _ _ = true; kernel_rfl)
                   | (show turnsB _ = true; kernel_rfl)
                   | assumption
                   | exact hd.1
                   | exact hd.2.1
                   | exact hd.2.2.1
                   | exact hd.2.2.2.1
                   | exact hd.2.2.2.2.1
                   | exact hd.2.2.2.2.2.1
                   | exact hd.2.2.2.2.2.2
                   | (show (0 : Int) ≤ 1073741824 ∧ (-1099511627776 : Int) ≤ 0 ∧ (1073741824 : Int) ≤ 1099511627776; decide)
                   | (show (0 : Int) ≤ 0 ∧ (0 : Int) ≤ 60 ∧ (60 : Int) ≤ (xs.length : Int); omega)
                   | skip
  · have hl2 : ls = xs := by rw [hls]; unfold shortX; rw [if_neg h60]
    obtain rfl := hl2
    have g1 : A.cmp .gtr (A.len ls) 60 = false := by subst hA; show decide ((60 : Int) < (ls.length : Int)) = false; exact decide_eq_false (by omega)
    have g2 : A.cmp .gtr 0 0 = false := by subst hA; rfl
    cbv at g1
    cbv at g2
    refine unrollL (T := fun _ => tabY [99, 107, 1010, 1014, 1020, 1041, 1044, 1050, 1060, 1061, 1112, 1037, 1040, 5003, 5004] [7, 12, 18]) (H := fun _ => [kn_within3 GFsPq, kn_play GFsS6, kn_sameSt GFsS4, kn_iruns2 GFsI2]) (tabY_ok _ _) hH follows_mixed hA hX 8 fun R hR => ?_
    cbv
    repeat' first
      | (simp only [l0, l1, l2, l3, l4, l5, l6, l7, b0, b1, b2, b3, b4, b5, b6, o0_0, o0_1, o0_2, o0_3, o0_4, o0_5, o0_6, x0, x1, x2, x3, x4, x5, x6, g1, g2, decide_true]; cbv)
      | (refine And.intro ?_ ?_)
      | (refine hR _ _ _ ?_; cbv)
      | (refine part (fun h => ?_) (fun h => ?_) <;> try cbv)
    rotate_right 1
    · (with_reducible refine goL (c := .region 7 _ _) (T := fun _ => tabY [99, 107, 1010, 1014, 1020, 1041, 1044, 1050, 1060, 1061, 1112, 1037, 1040, 5003, 5004] []) (H := fun _ => [kn_within3 GFsPq, kn_play GFsS6, kn_sameSt GFsS4, kn_iruns2 GFsI2]) (tabY_ok _ _) hH follows_mixed hA hX ?_) <;> cbv
      simp only [p1]
      cbv
      repeat' (refine And.intro ?_ ?_)
      rotate_right 1
      · refine callL hX (FnD.newRow hIP (by simp [closedL, closedD, hs0c]; rfl) fun v c m hc hm => ?_)
        have hcc : closedL 0 c = true := by rw [hc]; exact rows_closed _
        have hm5 : 5 ≤ m ∧ m ≤ 16384 := by rw [hm]; exact hlen
        have hG1 : FnD Try.prog 11 [.view 1 0 v 0 m] [⟨5, c, true, v, true⟩] (fun r st' => r = .tup [.agg [.d (.sc (.int .i64 w0)), .d (.sc (.int .i64 w1)), .d (.sc (.int .i64 w2)), .d (.sc (.int .i64 w3)), .d (.sc (.int .i64 w4)), .d (.sc (.int .i64 w5)), .d (.sc (.int .i64 w6))], .agg s0, .d (.sc (.int .i64 0))] ∧ st' = [⟨5, c, true, v, true⟩]) := by
          have := w_iget (bytesP bI) (bytesP bI) c v m ⟨bI, rfl, by omega⟩ hc (by rw [bytesP_length]; omega) (by rw [bytesP_take, hm, List.take_length])
          rw [hback] at this
          exact this
        have k2 : A.cmp .gtr (A.int m) 16384 = false := by subst hA; show decide ((16384 : Int) < (m : Int)) = false; exact decide_eq_false (by omega)
        cbv at k2
        cbv
        refine callL hX (FnD.rowKeep 2 hG1 rfl rfl (by simp [closedL, closedD, hs0c]) hcc ?_)
        cbv
        repeat' first
          | (simp only [k1, k2, q0, q1, q2, q3, q4, q5, q6, k6, k7, k8, ss]; cbv)
          | (refine And.intro ?_ ?_)
          | (refine part (fun h => ?_) (fun h => ?_) <;> try cbv)
        rotate_right 1
        · (with_reducible refine goL (c := .region 12 _ _) (T := fun _ => tabY [99, 107, 1010, 1014, 1020, 1041, 1044, 1050, 1060, 1061, 1112, 1037, 1040, 5003, 5004] []) (H := fun _ => [kn_within3 GFsPq, kn_play GFsS6, kn_sameSt GFsS4, kn_iruns2 GFsI2]) (tabY_ok _ _) hH follows_mixed hA hX ?_) <;> cbv
          repeat' (refine And.intro ?_ ?_)
          rotate_right 1
          · obtain ⟨bit, hbit⟩ : ∃ b, b = GFsPq.within3 at_ 0 (A.bin .sub .i64 (A.bin .mul .i64 8 (A.int m)) 1) := ⟨_, rfl⟩
            have hbr : 0 ≤ bit ∧ bit ≤ 8 * (m : Int) - 1 := by
              rw [hbit]
              subst hFsPq hA
              rw [last_bit hm5]
              exact within_r at_ _ (by omega)
            cbv at hbit
            simp only [← hbit]
            clear hbit
            refine loopL (T := fun _ => tabY [99, 107, 1010, 1014, 1020, 1041, 1044, 1050, 1060, 1061, 1112, 1037, 1040, 5003, 5004] [7, 12, 18]) (H := fun _ => [kn_within3 GFsPq, kn_play GFsS6, kn_sameSt GFsS4, kn_iruns2 GFsI2]) (tabY_ok _ _) hH follows_mixed hA hX (BkI bI burst bit)
              (fun x : BkS => [(3, .d (.sc (.int .u32 burst))), (12, .view 1 2 v 0 m), (16, .d (.sc (.int .i64 bit))), (17, .d (.sc (.bool x.t))), (18, .d (.sc (.int .i64 x.i)))])
              (fun x => [⟨25, [.d (.sc (.int .i64 w0)), .d (.sc (.int .i64 w1)), .d (.sc (.int .i64 w2)), .d (.sc (.int .i64 w3)), .d (.sc (.int .i64 w4)), .d (.sc (.int .i64 w5)), .d (.sc (.int .i64 w6))], false, 0, true⟩, ⟨34, s0, false, 0, true⟩, ⟨5, x.cs, true, v, true⟩, ⟨25, [.d (.sc (.int .i64 w0)), .d (.sc (.int .i64 w1)), .d (.sc (.int .i64 w2)), .d (.sc (.int .i64 w3)), .d (.sc (.int .i64 w4)), .d (.sc (.int .i64 w5)), .d (.sc (.int .i64 w6))], false, 0, true⟩, ⟨34, s0, false, 0, true⟩]) (fun x => 32 - x.i.toNat) ⟨0, c, false⟩ ?_ ?_ ?_
            · refine ⟨⟨by simp only; omega, by simp only; omega⟩, bI, hc, rfl, ?_, ?_⟩
              · show leN bI = leN bI ^^^ (2 ^ bit.toNat * 0)
                rw [Nat.mul_zero, Nat.xor_zero]
              · show false = true ↔ (0 : Nat) ≠ 0
                simp
            · exact told_less (by simp [toldP, getS])
            rintro R9 ⟨i, cs, tn⟩ hR9 ⟨hi, bs, hcs, hbl, hle, htn⟩
            replace hi : 0 ≤ i ∧ i ≤ 32 := hi
            replace hcs : cs = rowsD (bytesP bs) := hcs
            replace hle : leN bs = leN bI ^^^ (2 ^ bit.toNat * brst burst.toNat bI.length bit.toNat i.toNat) := hle
            replace htn : tn = true ↔ brst burst.toNat bI.length bit.toNat i.toNat ≠ 0 := htn
            cbv
            repeat' first
              | (refine And.intro ?_ ?_)
              | (refine part (fun h => ?_) (fun h => ?_) <;> try cbv)
              | ((with_reducible refine regionZ (T := fun _ => tabY [99, 107, 1010, 1014, 1020, 1041, 1044, 1050, 1060, 1061, 1112, 1037, 1040, 5003, 5004] []) (H := fun _ => [kn_within3 GFsPq, kn_play GFsS6, kn_sameSt GFsS4, kn_iruns2 GFsI2]) (A := A) (tabY_ok _ _) hH follows_mixed hA hX (by kernel_rfl) ?_) <;> cbv)
            rotate_right 1
            · obtain ⟨q, hq⟩ : ∃ q, q = igetX (bytesP bs) := ⟨_, rfl⟩
              obtain ⟨⟨e0, e1, e2, e3, e4, e5, e6⟩, s2, f2⟩ := q
              have hbB : isB8 (bytesP bs) := ⟨bs, rfl, by omega⟩
              have hs2 : isSt s2 := by
                have := iget_st hbB
                rw [← hq] at this
                exact this
              have hcl2 := hs2.closed
              have ls2 := hs2.len
              have hcc2 : closedL 0 cs = true := by rw [hcs]; exact rows_closed _
              have hG2 : FnD Try.prog 11 [.view 1 0 v 0 m] [⟨5, cs, true, v, true⟩] (fun r st' => r = .tup [.agg [.d (.sc (.int .i64 e0)), .d (.sc (.int .i64 e1)), .d (.sc (.int .i64 e2)), .d (.sc (.int .i64 e3)), .d (.sc (.int .i64 e4)), .d (.sc (.int .i64 e5)), .d (.sc (.int .i64 e6))], .agg s2, .d (.sc (.int .i64 f2))] ∧ st' = [⟨5, cs, true, v, true⟩]) := by
                have := w_iget (bytesP bs) (bytesP bs) cs v m hbB hcs (by rw [bytesP_length]; omega) (by rw [bytesP_take, List.take_of_length_le (by omega)])
                rw [← hq] at this
                exact this
              refine callL hX (FnD.rowKeep 2 hG2 rfl rfl (by simp [closedL, closedD, hcl2]) hcc2 ?_)
              cbv
              repeat' first
                | (refine And.intro ?_ ?_)
                | (refine part (fun h => ?_) (fun h => ?_) <;> try cbv)
              · subst hA; exact rfl
              · subst hA; exact rfl
              · subst hA; show s2.length = 49 * 1; exact ls2
              · subst hA; intro q9; show (_ == true) = true; rw [q9]; rfl
              · subst hA hW hFsI2
                have e9 : i = 32 := by
                  have q9 : A0.cmp .lss i 32 = false := by assumption
                  have := of_decide_eq_false q9
                  omega
                have hq2 : bit ≤ 8 * ((bs.length : Nat) : Int) - 1 := by rw [hbl, ← hm]; exact hbr.2
                have hq3 : bit.toNat ≤ 8 * bs.length := by clear hbr; omega
                have hb9 := iget_burst (d := ⟨w0, w1, w2, w3, w4, w5, w6⟩) hrD hok (by decide) (bs := bs) (p := bit.toNat) (v := brst burst.toNat bI.length bit.toNat 32) (by rw [← hs0, ← hbI]; exact hbl) hq3 (brst_lt _ _ _ 32) (by rw [← hs0, ← hbI, hle, e9]; rfl)
                rw [← hq] at hb9
                replace hb9 : f2 = 0 ↔ brst burst.toNat bI.length bit.toNat 32 = 0 := hb9
                rw [e9] at htn
                replace htn : tn = true ↔ brst burst.toNat bI.length bit.toNat 32 ≠ 0 := htn
                refine ret_v (congrArg boolD ?_) rfl
                show (bif decide (decide (f2 = 0) = !tn) then true else false) = true
                have : decide (f2 = 0) = !tn := by
                  by_cases q9 : f2 = 0
                  · have q8 : ¬ tn = true := fun q => htn.1 q (hb9.1 q9)
                    rw [decide_eq_true q9, Bool.eq_false_iff.2 q8]
                    rfl
                  · have q8 : tn = true := htn.2 fun q => q9 (hb9.2 q)
                    rw [decide_eq_false q9, q8]
                    rfl
                rw [this]
                simp
            all_goals subst hA hX
            all_goals have h32 : i < 32 := of_decide_eq_true (show A0.cmp .lss i 32 = true from by assumption)
            all_goals have hBk : BkI bI burst bit ⟨i, cs, tn⟩ := ⟨hi, bs, hcs, hbl, hle, htn⟩
            all_goals have ei : A0.bin .add .i64 i 1 = i + 1 := add_i64 (by unfold r64; omega)
            all_goals have e2 := lim_eq hm5 hbr hi
            all_goals first
              | exact hi.1
              | exact id
              | exact fun _ => trivial
              | exact rfl
              | exact fun _ => rfl
              | (show (8 : Int) ≠ 0; decide)
              | (intro q; exact beq_iff_eq.2 q)
              | (have hc9 : A0.cond (A0.cmp .eql (A0.bin .and .u32 (A0.bin .shr .u32 burst i) 1) 1) (A0.cmp .lss (A0.bin .add .i64 bit i) (A0.bin .mul .i64 8 (A0.int m))) false = true := by assumption
                 have hb1 := cond_yes hc9 e2
                 have hon := hBk.on hbu hm hm5 hbr h32 hb1.1 hb1.2
                 first
                   | exact hon.1
                   | exact hon.2.1
                   | exact hon.2.2.1
                   | exact hon.2.2.2.1
                   | (rw [hR9]
                      refine ⟨⟨_, _, true⟩, hon.2.2.2.2, ?_, told_less (by simp [toldP, getS])⟩
                      show 32 - (A0.bin .add .i64 i 1).toNat < 32 - i.toNat
                      rw [ei]
                      omega))
              | (have hc9 : A0.cond (A0.cmp .eql (A0.bin .and .u32 (A0.bin .shr .u32 burst i) 1) 1) (A0.cmp .lss (A0.bin .add .i64 bit i) (A0.bin .mul .i64 8 (A0.int m))) false = false := by assumption
                 have hb1 := cond_no hc9 e2
                 rw [hR9]
                 refine ⟨⟨_, _, tn⟩, hBk.off hbu hm hm5 hbr h32 hb1, ?_, told_less (by simp [toldP, getS])⟩
                 show 32 - (A0.bin .add .i64 i 1).toNat < 32 - i.toNat
                 rw [ei]
                 omega)
          all_goals subst hA hFsPq
          all_goals first
            | exact rfl
            | exact hat
            | (show (0 : Int) ≤ A0.bin .sub .i64 (A0.bin .mul .i64 8 (A0.int m)) 1 ∧ (-1099511627776 : Int) ≤ 0 ∧ A0.bin .sub .i64 (A0.bin .mul .i64 8 (A0.int m)) 1 ≤ 1099511627776
               rw [last_bit hm5]
               omega)
        all_goals subst hA hFsS6 hFsS4 hFsPq
        all_goals first
                       | exact rfl
                       | exact id
                       | exact fun _ => trivial
                       | exact fun _ => rfl
                       | exact fun _ => hs0l
                       | exact fun _ => hs0S
                       | exact hs0l
                       | exact hs0S
                       | exact hlsC
                       | exact z49
                       | (show Region.lexB _ _ = true; kernel_rfl)
                       | (show turnsB _ = true; kernel_rfl)
                       | assumption
                       | skip
      all_goals subst hA hFsS6 hFsS4 hFsPq
      all_goals first
                     | exact rfl
                     | exact id
                     | exact fun _ => trivial
                     | exact fun _ => rfl
                     | exact fun _ => hs0l
                     | exact fun _ => hs0S
                     | exact hs0l
                     | exact hs0S
                     | exact hlsC
                     | exact z49
                     | (show Region.lexB _ _ = true; kernel_rfl)
                     | (show turnsB _ = true; kernel_rfl)
                     | assumption
                     | skip
    all_goals subst hA hFsS6 hFsS4 hFsPq
    all_goals first
                   | exact rfl
                   | exact id
                   | exact fun _ => trivial
                   | exact fun _ => rfl
                   | exact fun _ => hs0l
                   | exact fun _ => hs0S
                   | exact hs0l
                   | exact hs0S
                   | exact hlsC
                   | exact z49
                   | (show Region.lexB _ _ = true; kernel_rfl)
                   | (show turnsB _ = true; kernel_rfl)
                   | assumption
                   | exact hd.1
                   | exact hd.2.1
                   | exact hd.2.2.1
                   | exact hd.2.2.2.1
                   | exact hd.2.2.2.2.1
                   | exact hd.2.2.2.2.2.1
                   | exact hd.2.2.2.2.2.2
                   | (show (0 : Int) ≤ 1073741824 ∧ (-1099511627776 : Int) ≤ 0 ∧ (1073741824 : Int) ≤ 1099511627776; decide)
                   | (show (0 : Int) ≤ 0 ∧ (0 : Int) ≤ 60 ∧ (60 : Int) ≤ (xs.length : Int); omega)
                   | skip
end Go.Proofs.Ytghkcmgiagodlaa
