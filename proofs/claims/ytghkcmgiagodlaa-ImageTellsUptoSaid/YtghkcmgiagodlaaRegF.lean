/- A region in order whose built slices are settled at once. No condition: lemmas of any program. -/
import Derived.Test.YtghkcmgiagodlaaAm35
namespace Go.Proofs.Ytghkcmgiagodlaa
open Go.RowKit
set_option linter.all false
end Go.Proofs.Ytghkcmgiagodlaa
