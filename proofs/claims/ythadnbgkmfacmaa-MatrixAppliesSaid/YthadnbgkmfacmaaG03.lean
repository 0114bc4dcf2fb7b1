/- Contracts of Join: the program's and the reference's. -/
import Derived.Test.YthadnbgkmfacmaaB03
set_option linter.all false
set_option maxHeartbeats 2000000
set_option maxRecDepth 20000
namespace Go.Abs
open Go Go.Proofs

def clipG (x : Int) : Int := max (0 - 655360) (min 655360 x)
def joE (m b : List (List Int)) : Int := if matB m = true ∧ matB b = true then if framesB m = b.length then 0 else 11 else 1
def joF (m b : List (List Int)) (i f : Nat) : Int := clipG (rnd (dotN m b i f b.length) 65536)
def joM (m b : List (List Int)) : List (List Int) := if joE m b = 0 then matF (joF m b) m.length (framesB b) else []
end Go.Abs
