/- Texts in their order: plain laws. No condition. -/
import Derived.Test.YtadnpgkddgbhkaaZX4
import Derived.Laws.Strings
import Derived.Lib.SmallJoins
namespace Go.Proofs.Ytadnpgkddgbhkaa
open Go.RowKit
set_option linter.all false
theorem bl_irrefl : ∀ x : List UInt8, Op.bytesLess x x = false
 | [] => rfl
 | a :: x => by
     simp only [Op.bytesLess, bl_irrefl x, Bool.and_false, Bool.or_false]
     simp [UInt8.lt_iff_toNat_lt]
theorem bl_total : ∀ x y : List UInt8, (!Op.bytesLess x y) = (Op.bytesLess y x || decide (y = x))
 | [], [] => by simp [Op.bytesLess]
 | [], b :: y => by simp [Op.bytesLess]
 | a :: x, [] => by simp [Op.bytesLess]
 | a :: x, b :: y => by
     have ih := bl_total x y
     simp only [Op.bytesLess]
     by_cases hab : a = b
     ·subst hab
      have : ¬ a < a := by simp [UInt8.lt_iff_toNat_lt]
      simp only [this, decide_false, Bool.false_or, BEq.rfl, Bool.true_and, ih]
      simp
     ·have h1 : (a == b) = false := by simpa using hab
      have h2 : (b == a) = false := by simpa using fun e => hab e.symm
      have h3 : ¬ a.toNat = b.toNat := fun e => hab (UInt8.toNat_inj.1 e)
      simp only [h1, h2, Bool.false_and, Bool.or_false]
      have h4 : decide (b :: y = a :: x) = false := by simp; intro e; exact absurd e.symm hab
      rw [h4, Bool.or_false]
      by_cases hlt : a < b
      ·have : ¬ b < a := by rw [UInt8.lt_iff_toNat_lt] at *; omega
       simp [hlt, this]
      ·have : b < a := by rw [UInt8.lt_iff_toNat_lt] at *; omega
       simp [hlt, this]
theorem bl_trans : ∀ x y z : List UInt8, Op.bytesLess x y = true → Op.bytesLess y z = true → Op.bytesLess x z = true
 | _, _, [], _, h => by simp [Op.bytesLess] at h
 | _, [], c :: z, h, _ => by simp [Op.bytesLess] at h
 | [], b :: y, c :: z, _, _ => rfl
 | a :: x, b :: y, c :: z, h, g => by
     simp only [Op.bytesLess, Bool.or_eq_true, Bool.and_eq_true, decide_eq_true_eq, beq_iff_eq] at h g ⊢
     rcases h with h | ⟨rfl, h⟩
     ·rcases g with g | ⟨rfl, g⟩
      ·left; rw [UInt8.lt_iff_toNat_lt] at *; omega
      ·exact .inl h
     ·rcases g with g | ⟨rfl, g⟩
      ·exact .inl g
      ·exact .inr ⟨rfl, bl_trans x y z h g⟩
theorem toList_inj {a b : ByteArray} : a.toList = b.toList ↔ a = b := by
 rw [ByteArray.toList_eq, ByteArray.toList_eq]
 constructor
 ·intro h
  cases a; cases b
  simp only [ByteArray.mk.injEq]
  exact Array.ext' h
 ·intro h; rw [h]
theorem ltb_irrefl (x : ByteArray) : ltb x x = false := bl_irrefl _
theorem ltb_total (x y : ByteArray) : (!ltb x y) = (ltb y x || decide (y = x)) := by
 unfold ltb
 rw [bl_total]
 simp only [toList_inj]
theorem ltb_trans {x y z : ByteArray} (h : ltb x y = true) (g : ltb y z = true) : ltb x z = true := bl_trans _ _ _ h g
theorem ltb_empty (x : ByteArray) : ltb x { data := #[] } = false := by
 unfold ltb
 rw [show ({ data := #[] } : ByteArray).toList = [] from by rw [ByteArray.toList_eq]]
 cases x.toList <;> rfl
theorem empty_ltb (x : ByteArray) : ltb { data := #[] } x = !decide (x = { data := #[] }) := by
 have h := ltb_total { data := #[] } x
 rw [ltb_empty, Bool.false_or] at h
 rw [← h, Bool.not_not]
end Go.Proofs.Ytadnpgkddgbhkaa
