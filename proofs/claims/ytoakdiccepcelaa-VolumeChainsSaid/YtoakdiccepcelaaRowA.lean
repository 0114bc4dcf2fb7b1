/- Part of the proof of a statement about the given program: lemmas; no conditions beyond those that each lemma states. -/
import Derived.Test.YtoakdiccepcelaaVolA
import Derived.Test.YtoakdiccepcelaaAbsLaw
import Derived.Test.YtoakdiccepcelaaRows
set_option linter.all false
namespace Go.Abs
open Go Go.Proofs
theorem reads_int1 {DH : Type} {H : AHeap} {ts : List TypeId} {vs : List Value} {ds : List (DataW DH)} (h : Reads tt H (3 :: ts) vs ds) : ∃ x vs' ds', vs = iv x :: vs' ∧ ds = .lit (.int .i64 x) :: ds' ∧ -9223372036854775808 ≤ x ∧ x ≤ 9223372036854775807 ∧ Reads tt H ts vs' ds' := by
  cases h with
  | int h1 h2 h3 h4 h5 =>
    cases h1
    cases h2
    exact ⟨_, _, _, rfl, rfl, h3, h4, h5⟩
  | bool h1 h2 _ => cases h1; cases h2
  | string h1 h2 _ _ => cases h1; cases h2
  | sliceNil h1 h2 _ => cases h1; cases h2
  | slice h1 h2 _ _ _ _ _ _ _ _ _ _ => cases h1; cases h2
  | struct h1 h2 _ _ _ => cases h1; cases h2
  | arr h1 h2 _ _ _ => cases h1; cases h2
theorem reads_ints {DH : Type} {H : AHeap} : ∀ (n : Nat) {c : List Value} {ds : List (DataW DH)}, Reads tt H (List.replicate n 3) c ds → ∃ xs : List Int, c = xs.map iv ∧ xs.length = n ∧ ∀ x ∈ xs, -9223372036854775808 ≤ x ∧ x ≤ 9223372036854775807
  | 0, _, _, h => by cases h; exact ⟨[], rfl, rfl, by simp⟩
  | n + 1, _, _, h => by
    obtain ⟨x, vs', ds', rfl, rfl, h1, h2, h3⟩ := reads_int1 h
    obtain ⟨xs, rfl, rfl, h4⟩ := reads_ints n h3
    exact ⟨x :: xs, rfl, rfl, by simp; exact ⟨⟨h1, h2⟩, h4⟩⟩

theorem arg_int {DH : Type} {H : AHeap} {v : Value} {d : DataW DH} (h : ReadsArg tt H 3 v d) : ∃ x, v = iv x ∧ -9223372036854775808 ≤ x ∧ x ≤ 9223372036854775807 := by
  obtain ⟨e, he, h⟩ := h
  cases he
  obtain ⟨x, vs', ds', h1, h2, h3, h4, h5⟩ := reads_int1 h
  cases h1
  exact ⟨x, rfl, h3, h4⟩
theorem reads_row1 {DH : Type} {H : AHeap} {ts : List TypeId} {vs : List Value} {ds : List (DataW DH)} (h : Reads tt H (30 :: ts) vs ds) : ∃ (v : Value) (xs : List Int) (vs' : List Value) (ds' : List (DataW DH)), vs = v :: vs' ∧ (IsRow H v xs ∧ xs.length ≤ 9223372036854775807) ∧ Reads tt H ts vs' ds' := by
  cases h with
  | sliceNil h1 h2 h3 => exact ⟨_, [], _, _, rfl, ⟨⟨by simp, .inl ⟨rfl, rfl⟩⟩, by simp⟩, h3⟩
  | @slice _ e ee el i len cap c es sp _ _ _ h1 h2 h3 h4 h5 h6 h7 h8 h9 h10 h11 h12 =>
    cases h1
    cases h2
    cases h3
    obtain ⟨xs, rfl, hl, hb⟩ := reads_ints cap h11
    refine ⟨_, xs.take len, _, _, rfl, ⟨⟨fun x hx => hb x (List.mem_of_mem_take hx), .inr ⟨i, 0, cap, _, _, _, ?_, h4, fun k x hk => ?_⟩⟩, ?_⟩, h12⟩
    · rw [List.length_take, Nat.min_eq_left (by omega)]
    · rw [List.getElem?_take] at hk
      split at hk
      · simp [hk]
      · exact absurd hk (by simp)
    · rw [List.length_take]; unfold maxLen at h8; omega
  | int h1 h2 _ _ _ => cases h1; cases h2
  | bool h1 h2 _ => cases h1; cases h2
  | string h1 h2 _ _ => cases h1; cases h2
  | struct h1 h2 _ _ _ => cases h1; cases h2
  | arr h1 h2 _ _ _ => cases h1; cases h2
theorem arg_row {DH : Type} {H : AHeap} {v : Value} {d : DataW DH} (h : ReadsArg tt H 30 v d) : ∃ xs, IsRow H v xs ∧ xs.length ≤ 9223372036854775807 := by
  obtain ⟨e, he, h⟩ := h
  cases he
  obtain ⟨v', xs, vs', ds', h1, h2, _⟩ := reads_row1 h
  cases h1
  exact ⟨xs, h2⟩
end Go.Abs
