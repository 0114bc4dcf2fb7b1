/- Laws of bytes: what is written is read back; samples behind levels are near. -/
import Derived.Test.YthjmijjppaebgaaE04
set_option linter.all false
set_option maxHeartbeats 1000000
set_option maxRecDepth 20000
namespace Go.Abs
open Go Go.Proofs

theorem sAt_bstr {bs : List Int} (hb : ∀ b ∈ bs, 0 ≤ b ∧ b < 256) {k : Nat} (hk : k < bs.length) : sAt (bstr bs) k = bs.getD k 0 := by
  have h := hb _ (List.getElem_mem hk)
  simp [sAt, bstr, strV, hk, byteV]
  omega
theorem flats_len {f : Nat → List Int} {n m : Nat} (h : ∀ i, i < m → (f i).length = n) : (((List.range m).map f).flatten).length = n * m := by
  induction m with
  | zero => simp
  | succ m ih =>
    rw [List.range_succ, List.map_append, List.flatten_append, List.length_append, ih (fun i hi => h i (by omega))]
    simp [h m (by omega), Nat.mul_add]
theorem flats_get {f : Nat → List Int} {n m : Nat} (h : ∀ i, i < m → (f i).length = n) {i k : Nat} (hi : i < m) (hk : k < n) : (((List.range m).map f).flatten).getD (n * i + k) 0 = (f i).getD k 0 := by
  induction m with
  | zero => omega
  | succ m ih =>
    have hl := flats_len (f := f) (n := n) (m := m) (fun i hi => h i (by omega))
    rw [List.range_succ, List.map_append, List.flatten_append, List.getD_eq_getElem?_getD, List.getElem?_append, hl]
    by_cases him : i < m
    · have h1 : n * i + n ≤ n * m := by
        have := Nat.mul_le_mul_left n (him : i + 1 ≤ m)
        rw [Nat.mul_succ] at this; exact this
      rw [if_pos (by omega), ← List.getD_eq_getElem?_getD]
      exact ih (fun i hi => h i (by omega)) him
    · obtain rfl : i = m := by omega
      rw [if_neg (by omega)]
      simp
theorem putL_n {e l : Int} (he : enc e) : (putL e l).length = nB e := by
  rcases enc_cases he with rfl | rfl | rfl | rfl | rfl | rfl | rfl | rfl <;> rfl
theorem putL_at {e l : Int} (he : enc e) (h2 : e ≠ 2) {k : Nat} (hk : k < nB e) : (putL e l).getD (if bigE e = true then nB e - 1 - k else k) 0 = byteF l k := by
  rcases enc_cases he with rfl | rfl | rfl | rfl | rfl | rfl | rfl | rfl
  · obtain rfl : k = 0 := by have : k < 1 := hk; omega
    rfl
  · exact absurd rfl h2
  · have : k < 2 := hk
    rcases (by omega : k = 0 ∨ k = 1) with rfl | rfl <;> rfl
  · have : k < 2 := hk
    rcases (by omega : k = 0 ∨ k = 1) with rfl | rfl <;> rfl
  · have : k < 3 := hk
    rcases (by omega : k = 0 ∨ k = 1 ∨ k = 2) with rfl | rfl | rfl <;> rfl
  · have : k < 3 := hk
    rcases (by omega : k = 0 ∨ k = 1 ∨ k = 2) with rfl | rfl | rfl <;> rfl
  · have : k < 4 := hk
    rcases (by omega : k = 0 ∨ k = 1 ∨ k = 2 ∨ k = 3) with rfl | rfl | rfl | rfl <;> rfl
  · have : k < 4 := hk
    rcases (by omega : k = 0 ∨ k = 1 ∨ k = 2 ∨ k = 3) with rfl | rfl | rfl | rfl <;> rfl
theorem byteF_div (l : Int) : byteF l 0 = l % 256 ∧ byteF l 1 = l / 256 % 256 ∧ byteF l 2 = l / 65536 % 256 ∧ byteF l 3 = l / 16777216 % 256 := by
  unfold byteF
  rw [shr_eq, shr_eq, shr_eq, shr_eq]
  refine ⟨?_, rfl, rfl, rfl⟩
  show l / 1 % 256 = l % 256
  omega
theorem arg_bool {DH : Type} {H : AHeap} {t : TypeId} {v : Value} {d : DataW DH} (h : ReadsArg tt H t v d) (ht : dAt tt t = some .bool) : ∃ x, v = .bool x := by
  obtain ⟨x, h1⟩ := arg_one h (dec_bool ht) (by rw [ht]; rfl)
  cases h1
  exact ⟨x, rfl⟩
theorem arg_str {DH : Type} {H : AHeap} {t : TypeId} {v : Value} {d : DataW DH} (h : ReadsArg tt H t v d) (ht : dAt tt t = some .string) : ∃ x, v = .string x ∧ x.size ≤ maxN := by
  obtain ⟨x, h1, h2⟩ := arg_one h (dec_str ht) (by rw [ht]; rfl)
  cases h1
  exact ⟨x, rfl, h2⟩
end Go.Abs
