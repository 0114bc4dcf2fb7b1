/- Contracts of Peak and Power, the program's and the reference's. -/
import Derived.Test.YthjmijjppaebgaaW04
set_option linter.all false
set_option maxHeartbeats 2000000
set_option maxRecDepth 20000
namespace Go.Abs
open Go Go.Proofs

def absI (x : Int) : Int := max x (0 - x)
theorem mul_bdd {a x A B : Int} (ha : -A ≤ a ∧ a ≤ A) (hx : -B ≤ x ∧ x ≤ B) : -(A * B) ≤ a * x ∧ a * x ≤ A * B := by
  have hA : 0 ≤ A := by omega
  have hB : 0 ≤ B := by omega
  have h3 := Int.mul_nonneg hA hB
  rcases Int.le_total 0 a with h | h
  · rcases Int.le_total 0 x with g | g
    · have h1 : a * x ≤ A * B := Int.mul_le_mul ha.2 hx.2 g hA
      have h2 := Int.mul_nonneg h g
      omega
    · have h1 : a * (0 - x) ≤ A * B := Int.mul_le_mul ha.2 (by omega) (by omega) hA
      have h2 := Int.mul_nonneg h (show 0 ≤ 0 - x by omega)
      have e : a * (0 - x) = 0 - a * x := by rw [Int.mul_sub, Int.mul_zero]
      omega
  · rcases Int.le_total 0 x with g | g
    · have h1 : (0 - a) * x ≤ A * B := Int.mul_le_mul (by omega) hx.2 g hA
      have h2 := Int.mul_nonneg (show 0 ≤ 0 - a by omega) g
      have e : (0 - a) * x = 0 - a * x := by rw [Int.sub_mul, Int.zero_mul]
      omega
    · have h1 : (0 - a) * (0 - x) ≤ A * B := Int.mul_le_mul (by omega) (by omega) (by omega) hA
      have h2 := Int.mul_nonneg (show 0 ≤ 0 - a by omega) (show 0 ≤ 0 - x by omega)
      have e : (0 - a) * (0 - x) = a * x := by rw [Int.sub_mul, Int.zero_mul, Int.mul_sub, Int.mul_zero]; omega
      omega
def peakF (r : List Int) : Int := r.foldl (fun n x => max n (absI x)) 0
def sqF (r : List Int) : Int := r.foldl (fun n x => n + x * x) 0
def powF (r : List Int) : Int := if 0 < r.length then rnd (sqF r) r.length else 0
def measM (g : List Int → Int) (b : List (List Int)) : List Int := if blockB b = true then b.map g else []
def measE (b : List (List Int)) : Int := if blockB b = true then 0 else 1
end Go.Abs
