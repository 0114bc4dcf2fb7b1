/- Contracts of the reference's dither. -/
import Derived.Test.YthjmijjppaebgaaH04
set_option linter.all false
set_option maxHeartbeats 2000000
set_option maxRecDepth 20000
namespace Go.Abs
open Go Go.Proofs

attribute [local irreducible] nB idx pc pf maxF bytesAt bstr unitF dE dL dA dR dX nxt dstepL dstepE encM dLm
end Go.Abs
