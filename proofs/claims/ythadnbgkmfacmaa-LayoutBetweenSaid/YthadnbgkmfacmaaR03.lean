/- Contracts of rounding and bounding. No conditions beyond those stated. -/
import Derived.Test.YthadnbgkmfacmaaM03
set_option linter.all false
set_option maxHeartbeats 400000
set_option maxRecDepth 20000
namespace Go.Abs
open Go Go.Proofs
def rnd (a n : Int) : Int := if a < 0 then 0 - ((0 - a + n.tdiv 2).tdiv n) else (a + n.tdiv 2).tdiv n
/-- a row of whole numbers in memory -/
def rnd2 (a n : Int) : Int := if n - a.tmod n ≤ a.tmod n then a.tdiv n + 1 else a.tdiv n
end Go.Abs
