/- Contracts of functions that many packages share, continued: how large blocks are, matrices made, rows copied. No conditions beyond those stated. -/
import Derived.Test.YthjmijjppaebgaaD04
import Derived.Test.YthjmijjppaebgaaAbsMat
set_option linter.all false
set_option maxHeartbeats 400000
set_option maxRecDepth 20000
namespace Go.Abs
open Go Go.Proofs

abbrev Bls (H : AHeap) (a : Option Addr) (l : List (List (List Int))) : Prop := Sl (RSl RRow 1) 1 H a l
theorem Bls.kp {H H' : AHeap} {a : Option Addr} {l : List (List (List Int))} (h : Bls H a l) (k : Kp H H') : Bls H' a l := Sl.kp (rSl_mono (rSl_mono rInt_mono)) h k
def framesB (b : List (List Int)) : Nat := (b.headD []).length
end Go.Abs
