/- Contracts of Peak and Power, the program's and the reference's. -/
import Derived.Test.YthjmijjppaebgaaW04
set_option linter.all false
set_option maxHeartbeats 2000000
set_option maxRecDepth 20000
namespace Go.Abs
open Go Go.Proofs

def absI (x : Int) : Int := max x (0 - x)
def peakF (r : List Int) : Int := r.foldl (fun n x => max n (absI x)) 0
def sqF (r : List Int) : Int := r.foldl (fun n x => n + x * x) 0
def powF (r : List Int) : Int := if 0 < r.length then rnd (sqF r) r.length else 0
def measM (g : List Int → Int) (b : List (List Int)) : List Int := if blockB b = true then b.map g else []
def measE (b : List (List Int)) : Int := if blockB b = true then 0 else 1
end Go.Abs
