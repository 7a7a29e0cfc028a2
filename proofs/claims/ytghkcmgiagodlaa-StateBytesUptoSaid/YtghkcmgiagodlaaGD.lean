/- An image, read out of a row of one's own: image.Get. No condition. -/
import Derived.Test.YtghkcmgiagodlaaGC
namespace Go.Proofs.Ytghkcmgiagodlaa
open Go.RowKit
set_option linter.all false
set_option maxHeartbeats 4000000
def Deps.cells (d : Deps) : List DV := [.d (.sc (.int .i64 d.d0)), .d (.sc (.int .i64 d.d1)), .d (.sc (.int .i64 d.d2)), .d (.sc (.int .i64 d.d3)), .d (.sc (.int .i64 d.d4)), .d (.sc (.int .i64 d.d5)), .d (.sc (.int .i64 d.d6))]
end Go.Proofs.Ytghkcmgiagodlaa
