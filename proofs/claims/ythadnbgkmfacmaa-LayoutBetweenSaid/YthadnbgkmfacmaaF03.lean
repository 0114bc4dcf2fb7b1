/- Contract of the reference's Plain. -/
import Derived.Test.YthadnbgkmfacmaaB03
set_option linter.all false
set_option maxHeartbeats 2000000
set_option maxRecDepth 20000
namespace Go.Abs
open Go Go.Proofs

def PlainAt (m : List (List Int)) (i k : Nat) : Prop := at2 m i k ≠ 0 → (∀ n, n ≠ k → at2 m i n = 0) ∧ (∀ n, n ≠ i → at2 m n k = 0) ∧ at2 m i k = 65536
def Plain (m : List (List Int)) : Prop := ∀ i k, PlainAt m i k
theorem at2_row {m : List (List Int)} {i k : Nat} (h : ¬ i < m.length) : at2 m i k = 0 := by unfold at2; simp [List.getD, h]
theorem at2_col {m : List (List Int)} {i k : Nat} (hi : i < m.length) (h : ¬ k < m[i].length) : at2 m i k = 0 := by unfold at2; simp [List.getD, hi, h]
theorem at2_lt' {m : List (List Int)} {i k : Nat} (h : at2 m i k ≠ 0) : ∃ hi : i < m.length, k < m[i].length := by
  by_cases hi : i < m.length
  · refine ⟨hi, ?_⟩
    by_cases hk : k < m[i].length
    · exact hk
    · exact absurd (at2_col hi hk) h
  · exact absurd (at2_row hi) h
end Go.Abs
