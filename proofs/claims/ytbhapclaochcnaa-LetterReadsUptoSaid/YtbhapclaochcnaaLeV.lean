/- The document's letters as bytes. No condition. -/
import Derived.Test.YtbhapclaochcnaaRE
namespace Go.Proofs.Ytbhapclaochcnaa
open Go.RowKit
set_option linter.all false
set_option maxHeartbeats 8000000
end Go.Proofs.Ytbhapclaochcnaa
