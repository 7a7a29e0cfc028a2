/- What the laws' arguments are, read off their shapes. -/
import Derived.Test.YtligainhbdidgaaAm29
import Derived.Test.YtligainhbdidgaaPack
namespace Go.Proofs.Ytligainhbdidgaa
set_option linter.all false
theorem r64_wf {n : Int} (h : (Lit.int .i64 n).wf = true) : r64 n := by
  simp only [Lit.wf, Bool.and_eq_true, decide_eq_true_eq] at h
  exact h
end Go.Proofs.Ytligainhbdidgaa
