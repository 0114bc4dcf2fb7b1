/- Laws of bytes: what is written is read back; samples behind levels are near. -/
import Derived.Test.YthjmijjppaebgaaE04
set_option linter.all false
set_option maxHeartbeats 1000000
set_option maxRecDepth 20000
namespace Go.Abs
open Go Go.Proofs

theorem arg_bool {DH : Type} {H : AHeap} {t : TypeId} {v : Value} {d : DataW DH} (h : ReadsArg tt H t v d) (ht : dAt tt t = some .bool) : ∃ x, v = .bool x := by
  obtain ⟨x, h1⟩ := arg_one h (dec_bool ht) (by rw [ht]; rfl)
  cases h1
  exact ⟨x, rfl⟩
end Go.Abs
