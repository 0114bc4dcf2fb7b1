/- Contracts of the program's ramps: ranges over functions. -/
import Derived.Test.YtoakdiccepcelaaR06
set_option linter.all false
set_option maxHeartbeats 400000
set_option maxRecDepth 20000
namespace Go.Abs
open Go Go.Proofs

end Go.Abs
