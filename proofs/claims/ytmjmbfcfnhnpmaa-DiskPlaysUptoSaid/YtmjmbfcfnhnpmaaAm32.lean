/- The program logic, thirty-second part: loops that change one counter. No condition: lemmas of any program. -/
import Derived.Test.YtmjmbfcfnhnpmaaAm31
namespace Go.Proofs.Ytmjmbfcfnhnpmaa
open Go.RowKit
set_option linter.all false
section
variable {P : Program} {T : Unit → Tab} (hT : TabOk P (T ())) {H : Unit → Kn} (hH : SoundK P (H ())) (hm : P.follows .mixedOrders = true) {N : Nat} {c : Code} {Q : Exit → SL → Store → Prop} {s : SL} {st : Store} {A : Ar} {X : Cps}
end
end Go.Proofs.Ytmjmbfcfnhnpmaa
