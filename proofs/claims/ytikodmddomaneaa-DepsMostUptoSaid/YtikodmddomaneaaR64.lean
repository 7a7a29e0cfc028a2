/- Numbers of 64 bits. No condition. -/
import Derived.Test.YtikodmddomaneaaAm35
import Derived.Test.YtikodmddomaneaaTy
namespace Go.Proofs.Ytikodmddomaneaa
open Go.RowKit
set_option linter.all false
def r64 (n : Int) : Prop := -9223372036854775808 ≤ n ∧ n ≤ 9223372036854775807
theorem wrap_i64 {a : Int} (h : r64 a) : IntKind.wrap .i64 a = a := by
  unfold r64 at h
  simp only [IntKind.wrap, IntKind.bits, IntKind.signed]
  simp
  omega
theorem rowsD_len {xs : List (List PD)} {sz : Nat} (h : ∀ x ∈ xs, x.length = sz) : (rowsD xs).length = xs.length * sz := by
  induction xs with
  | nil => simp [rowsD]
  | cons x xs ih =>
    have := ih fun y hy => h y (by simp [hy])
    have hx := h x (by simp)
    simp only [rowsD, List.flatten_cons, List.map_append, List.length_append, List.length_map, List.length_cons] at this ⊢
    rw [this, hx, Nat.add_mul]
    omega
end Go.Proofs.Ytikodmddomaneaa
