/- The reference's Feed, and lists of events compared. No conditions beyond those stated. -/
import Derived.Test.YtpcnnioicfljfaaF10b
set_option linter.all false
set_option maxHeartbeats 2000000
set_option maxRecDepth 20000
namespace Go.Abs
open Go Go.Proofs

section
variable {S : MS} {H : AHeap} {K : CK}
/-! lists compared -/
end
end Go.Abs
