/- The program logic, forty-third part: regions in any order whose last operation alone turns something, with slices that are settled as they are built, and known calls that read. No condition: lemmas of any program. -/
import Derived.Test.YtbhapclaochcnaaAm42
namespace Go.Proofs.Ytbhapclaochcnaa
open Go.RowKit
set_option linter.all false
end Go.Proofs.Ytbhapclaochcnaa
