/- Contracts of Ramp and Apply, and the law VolumeRamps. -/
import Derived.Test.YtoakdiccepcelaaQ06
set_option linter.all false
set_option maxHeartbeats 800000
set_option maxRecDepth 20000
namespace Go.Abs
open Go Go.Proofs

/-- a matrix of the call's own that is filled place by place: rows before k are done, of row k the first j places -/
def fillM (f : List Int → Nat → Int) (m : List (List Int)) (k j : Nat) : List (List Int) := (List.range m.length).map fun i => fillN (f (m.getD i [])) (m.getD i []).length (if i < k then (m.getD i []).length else if i = k then j else 0)
end Go.Abs
