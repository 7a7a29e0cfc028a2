/- What the laws' owners, replies and pairs are, read off their shapes. No condition. -/
import Derived.Test.YtadnpgkddgbhkaaZX20
import Derived.Test.YtadnpgkddgbhkaaZX21
namespace Go.Proofs.Ytadnpgkddgbhkaa
open Go.RowKit
set_option linter.all false
theorem wf_r64 {n : Int} (h : (Lit.int .i64 n).wf = true) : r64 n := by
 simp only [Lit.wf, Bool.and_eq_true, decide_eq_true_eq] at h
 exact h
theorem fit_int {ps : List PD} (h : FitL [.int .i64] ps) : ∃ n, ps = [.sc (.int .i64 n)] ∧ r64 n := by
 simp only [FitL, FitP] at h
 obtain ⟨_, _, rfl, ⟨n, rfl, hn⟩, rfl⟩ := h
 exact ⟨n, rfl, wf_r64 hn⟩
end Go.Proofs.Ytadnpgkddgbhkaa
