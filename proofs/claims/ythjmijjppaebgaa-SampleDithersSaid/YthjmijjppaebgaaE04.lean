/- Contracts of Decode, the program's. -/
import Derived.Test.YthjmijjppaebgaaB04
set_option linter.all false
set_option maxHeartbeats 2000000
set_option maxRecDepth 20000
namespace Go.Abs
open Go Go.Proofs

def idx (pl : Bool) (C N c f : Nat) : Nat := if pl = true then c * N + f else f * C + c
theorem idx_place {pl : Bool} {C N i : Nat} : idx pl C N (pc C N pl i) (pf C N pl i) = i := by
  unfold idx pc pf
  cases pl with
  | true =>
    simp only [if_true]
    rw [Nat.mul_comm]; exact Nat.div_add_mod i N
  | false =>
    simp only [Bool.false_eq_true, if_false]
    rw [Nat.mul_comm]; exact Nat.div_add_mod i C
theorem place_idx {pl : Bool} {C N c f : Nat} (hc : c < C) (hf : f < N) : pc C N pl (idx pl C N c f) = c ∧ pf C N pl (idx pl C N c f) = f := by
  unfold idx pc pf
  cases pl with
  | true =>
    simp only [if_true]
    rw [Nat.mul_comm]
    exact ⟨by rw [Nat.mul_add_div (by omega), Nat.div_eq_of_lt hf]; rfl, by rw [Nat.mul_add_mod, Nat.mod_eq_of_lt hf]⟩
  | false =>
    simp only [Bool.false_eq_true, if_false]
    rw [Nat.mul_comm]
    exact ⟨by rw [Nat.mul_add_mod, Nat.mod_eq_of_lt hc], by rw [Nat.mul_add_div (by omega), Nat.div_eq_of_lt hc]; rfl⟩
theorem idx_lt {pl : Bool} {C N c f : Nat} (hc : c < C) (hf : f < N) : idx pl C N c f < C * N := by
  unfold idx
  cases pl with
  | true =>
    simp only [if_true]
    calc c * N + f < c * N + N := by omega
      _ = (c + 1) * N := by rw [Nat.add_mul]; omega
      _ ≤ C * N := Nat.mul_le_mul_right _ hc
  | false =>
    simp only [Bool.false_eq_true, if_false]
    calc f * C + c < f * C + C := by omega
      _ = (f + 1) * C := by rw [Nat.add_mul]; omega
      _ ≤ N * C := Nat.mul_le_mul_right _ hf
      _ = C * N := Nat.mul_comm _ _
theorem fill_idx {pl : Bool} {C N i : Nat} {g : Nat → Nat → Int} {v : Int} (hv : v = g (pc C N pl i) (pf C N pl i)) (hi : i < C * N) (c f : Nat) (hc : c < C) (hf : f < N) :
    (if c = pc C N pl i ∧ f = pf C N pl i then v else if idx pl C N c f < i then g c f else 0) = if idx pl C N c f < i + 1 then g c f else 0 := by
  by_cases h : c = pc C N pl i ∧ f = pf C N pl i
  · rw [if_pos h, hv]
    obtain ⟨rfl, rfl⟩ := h
    rw [idx_place, if_pos (by omega)]
  · rw [if_neg h]
    have hne : idx pl C N c f ≠ i := fun e => by
      obtain ⟨h1, h2⟩ := place_idx (pl := pl) hc hf
      rw [e] at h1 h2
      exact h ⟨h1.symm, h2.symm⟩
    by_cases h2 : idx pl C N c f < i
    · rw [if_pos h2, if_pos (by omega)]
    · rw [if_neg h2, if_neg (by omega)]
def decN (e : Int) (C : Nat) (s : ByteArray) : Nat := s.size / (nB e * C)
def decE (e C : Int) (s : ByteArray) : Int := if enc e ∧ 1 ≤ C ∧ C ≤ 8 then if s.size % (nB e * C.toNat) = 0 ∧ decN e C.toNat s ≤ 4096 then 0 else 11 else 7
def levAt (e : Int) (pl : Bool) (C : Nat) (s : ByteArray) (c f : Nat) : Int := levD e s (nB e * idx pl C (decN e C s) c f)
def levM (e : Int) (pl : Bool) (C : Int) (s : ByteArray) : List (List Int) := if decE e C s = 0 then matF (levAt e pl C.toNat s) C.toNat (decN e C.toNat s) else []
def decM (e : Int) (pl : Bool) (C : Int) (s : ByteArray) : List (List Int) := if decE e C s = 0 then matF (fun c f => sampF e (levAt e pl C.toNat s c f)) C.toNat (decN e C.toNat s) else []
theorem cod_form {e : Int} (he : enc e) : ∃ t x, codAt e = .iface t x := by
  rcases cod_cases he with ⟨b, g, h⟩ | h
  · exact ⟨_, _, h⟩
  · exact ⟨_, _, h⟩
theorem bits_w {e b : Int} {w : Value} (hw : codAt e = w) (he : enc e) (hb : bitsF e = b) {H : AHeap} {K : CK} (h : K (.returned (iv b)) H) : invS P w "continuo/sample.bits" [] H K := hw ▸ bits_v he hb h
attribute [local irreducible] sampF rawD levD levAt nB decN idx pc pf maxF decE leV bytesAt
end Go.Abs
