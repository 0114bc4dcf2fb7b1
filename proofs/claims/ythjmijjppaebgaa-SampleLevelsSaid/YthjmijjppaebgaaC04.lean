/- Contracts of functions that many packages share: comparing and looking at blocks. No conditions beyond those stated. -/
import Derived.Test.YthjmijjppaebgaaT04
set_option linter.all false
set_option maxHeartbeats 400000
set_option maxRecDepth 20000
namespace Go.Abs
open Go Go.Proofs

def lightB (b : List (List Int)) : Bool := decide (b.length ≤ 12) && b.all (fun r => decide (r.length ≤ 300))
def okS (x : Int) : Bool := decide (-8388607 ≤ x) && decide (x ≤ 8388607)
def rowOk (n : Nat) (r : List Int) : Bool := decide (r.length = n) && decide (r.length ≤ 4096) && r.all okS
def blockB (b : List (List Int)) : Bool := decide (1 ≤ b.length) && decide (b.length ≤ 8) && b.all (rowOk (b.headD []).length)
end Go.Abs
