/- Contracts of the ramps over blocks. -/
import Derived.Test.YtoakdiccepcelaaS06
set_option linter.all false
set_option maxHeartbeats 800000
set_option maxRecDepth 20000
namespace Go.Abs
open Go Go.Proofs

theorem blockB_rows {m : List (List Int)} (h : blockB m = true) : (1 ≤ m.length ∧ m.length ≤ 8) ∧ ∀ r ∈ m, r.length = (m.headD []).length ∧ r.length ≤ 4096 ∧ ∀ x ∈ r, -8388607 ≤ x ∧ x ≤ 8388607 := by
  unfold blockB at h
  simp only [Bool.and_eq_true, decide_eq_true_eq] at h
  refine ⟨h.1, fun r hr => ?_⟩
  have h2 := List.all_eq_true.1 h.2 r hr
  simp only [rowOk, Bool.and_eq_true, decide_eq_true_eq] at h2
  refine ⟨h2.1.1, h2.1.2, fun x hx => ?_⟩
  have h3 := List.all_eq_true.1 h2.2 x hx
  simpa [okS] using h3
theorem applyF_bd (x g : Int) : -8388607 ≤ applyF x g ∧ applyF x g ≤ 8388607 := by unfold applyF; omega
def rampF (a b n : Int) (r : List Int) (i : Nat) : Int := applyF (r.getD i 0) (nowF a b n i)
end Go.Abs
