/- Turned bytes: laws, and contracts of both Turns. -/
import Derived.Test.YthjmijjppaebgaaW04
set_option linter.all false
set_option maxHeartbeats 2000000
set_option maxRecDepth 20000
namespace Go.Abs
open Go Go.Proofs

def byL (s : ByteArray) : List Int := s.data.toList.map fun b => (b.toNat : Int)
def turnL (n C N : Nat) (pl : Bool) (s : ByteArray) (k : Nat) : List Int := ((List.range k).map fun i => bytesAt s (n * idx (!pl) C N (pc C N pl i) (pf C N pl i)) n false).flatten
def turnS (e C : Int) (pl : Bool) (s : ByteArray) : ByteArray := if decE e C s = 0 then bstr (turnL (nB e) C.toNat (decN e C.toNat s) pl s (C.toNat * decN e C.toNat s)) else .empty
attribute [local irreducible] sampF rawD levD levAt nB decN idx pc pf maxF decE leV bytesAt
end Go.Abs
/- Laws: bytes that are read and written again. -/
set_option maxHeartbeats 1000000
set_option maxRecDepth 20000
namespace Go.Abs
open Go Go.Proofs

theorem blockB_of {m : List (List Int)} {n N : Nat} (hn : 1 ≤ n ∧ n ≤ 8) (hN : N ≤ 4096) (hl : m.length = n) (hr : ∀ r ∈ m, r.length = N ∧ ∀ x ∈ r, -8388607 ≤ x ∧ x ≤ 8388607) : blockB m = true ∧ framesB m = N := by
  have hh : framesB m = N := by
    rw [frames0 (by omega)]
    exact (hr _ (List.getElem_mem _)).1
  refine ⟨?_, hh⟩
  unfold blockB
  rw [Bool.and_eq_true, Bool.and_eq_true, decide_eq_true_eq, decide_eq_true_eq]
  refine ⟨by omega, List.all_eq_true.2 fun r hrm => ?_⟩
  obtain ⟨h1, h2⟩ := hr r hrm
  unfold framesB at hh
  unfold rowOk
  rw [Bool.and_eq_true, Bool.and_eq_true, decide_eq_true_eq, decide_eq_true_eq]
  refine ⟨⟨by rw [hh, h1], by omega⟩, List.all_eq_true.2 fun x hx => ?_⟩
  have := h2 x hx
  unfold okS
  rw [Bool.and_eq_true, decide_eq_true_eq, decide_eq_true_eq]
  exact this
end Go.Abs
