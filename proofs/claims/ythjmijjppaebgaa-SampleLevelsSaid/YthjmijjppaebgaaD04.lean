/- Contracts of functions that many packages share, continued: searching, valid blocks, matrices of zeros. No conditions beyond those stated. -/
import Derived.Test.YthjmijjppaebgaaC04
set_option linter.all false
set_option maxHeartbeats 400000
set_option maxRecDepth 20000
namespace Go.Abs
open Go Go.Proofs

end Go.Abs
