/- The program logic, thirty-eighth part: regions with a map's operations, the evaluation of statements with a map. No condition: lemmas of any program. -/
import Derived.Test.YtbhapclaochcnaaAm37
namespace Go.Proofs.Ytbhapclaochcnaa
open Go.RowKit Go.Maps
set_option linter.all false
/-- What the operations of a map ask and give (a record, so that the reckoning leaves it shut). -/
structure Gr where
  isT : Nat → Prop
  isM : DV → Prop
  isKey : Value → Prop
  isX : Value → Prop
  isB : DV → Prop
  bD : DV
  x0 : Value
  look : (Value → Int) → Value → Int
  put : (Value → Int) → Value → Int → Value → Int
section
variable {P : Program} {T : Unit → Tab} (hT : TabOk P (T ())) {N : Nat} {B : Env} (hB : B.σ.length = B.st.length) {mt kt et : TypeId} (hK : Keyed P kt) (hmt : P.underlying mt = some (.map kt et)) (hz : ∃ i, P.info? et = some i ∧ i.zero = some (.int .i64 0)) {g : Nat} (hg : B.w.heap.size ≤ g) {x0 : Value} {b0 : Nat}
include hT hB hK hmt hz hg
end
section
variable {P : Program} {T : Unit → Tab} (hT : TabOk P (T ())) {N : Nat} {B : Env} (hB : B.σ.length = B.st.length) {mt kt et : TypeId} (hK : Keyed P kt) (hmt : P.underlying mt = some (.map kt et)) (hz : ∃ i, P.info? et = some i ∧ i.zero = some (.int .i64 0)) {g : Nat} (x0 : Value)
include hT hB hK hmt hz
end
section
variable {P : Program} {T : Unit → Tab} (hT : TabOk P (T ())) {H : Unit → Kn} (hH : SoundK P (H ())) (hm : P.follows .mixedOrders = true) {N : Nat} {B : Env} (hB : B.σ.length = B.st.length) {kt : TypeId}
include hT hH hm hB
end
end Go.Proofs.Ytbhapclaochcnaa
