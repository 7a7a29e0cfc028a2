/- The program logic, fortieth part: regions in any order whose last operation alone turns something, and waits for all others. No condition: lemmas of any program. -/
import Derived.Test.YtbhapclaochcnaaAm39
namespace Go.Proofs.Ytbhapclaochcnaa
open Go.RowKit
set_option linter.all false
/-- What is done has all done that it waits for. -/
def Clo (ops : Array Oper) (listed : Array Bool) : Prop := ∀ j o, listed.getD j false = true → ops[j]? = some o → ∀ e ∈ o.after, Region.binds .any e = true → listed.getD e.on false = true
theorem Clo.set {ops : Array Oper} {listed : Array Bool} (h : Clo ops listed) {i : Nat} (hr : i ∈ Region.ready .any ops listed) : Clo ops (listed.setIfInBounds i true) := by
  intro j o hj ho e he hb
  by_cases hji : j = i
  · subst hji
    obtain ⟨_, o', ho', hall⟩ := mem_ready.1 hr
    rw [ho] at ho'; cases ho'
    exact getD_set_true (hall e he hb)
  · rw [getD_set_ne false (Ne.symm hji)] at hj
    exact getD_set_true (h j o hj ho e he hb)
end Go.Proofs.Ytbhapclaochcnaa
