/- The program logic, forty-fourth part: regions in any order that call functions that turn boxes, whose last operation turns something and waits for all others. No condition: lemmas of any program. -/
import Derived.Test.YtbhapclaochcnaaAm43
namespace Go.Proofs.Ytbhapclaochcnaa
open Go.RowKit
set_option linter.all false
end Go.Proofs.Ytbhapclaochcnaa
