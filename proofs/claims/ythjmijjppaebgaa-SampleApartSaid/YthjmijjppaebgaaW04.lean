/- Contracts of the reference's bytes: written, laid, Encode. -/
import Derived.Test.YthjmijjppaebgaaZ04
set_option linter.all false
set_option maxHeartbeats 2000000
set_option maxRecDepth 20000
namespace Go.Abs
open Go Go.Proofs

theorem intK_eq {a v : Int} {K : Int → Prop} (hv : a = v) (hr : -9223372036854775808 ≤ v ∧ v ≤ 9223372036854775807) (hk : K v) : intK .i64 a K := by
  subst hv
  exact intK_in hr hk
def wrS (e : Int) (m : List (List Int)) (pl : Bool) : Nat → ByteArray
  | 0 => .empty
  | n + 1 => wrS e m pl n ++ bstr (putL e (at2 m (pc m.length (framesB m) pl n) (pf m.length (framesB m) pl n)))
theorem bstr_len (bs : List Int) : (bstr bs).size = bs.length := by simp [bstr, strV, ByteArray.size]
def encM (e : Int) (pl : Bool) (m : List (List Int)) (n : Nat) : List Int := ((List.range n).map fun i => putL e (at2 m (pc m.length (framesB m) pl i) (pf m.length (framesB m) pl i))).flatten
theorem encM_succ (e : Int) (pl : Bool) (m : List (List Int)) (n : Nat) : encM e pl m (n + 1) = encM e pl m n ++ putL e (at2 m (pc m.length (framesB m) pl n) (pf m.length (framesB m) pl n)) := by
  simp [encM, List.range_succ]
theorem encM_len (e : Int) (pl : Bool) (m : List (List Int)) : ∀ n, (encM e pl m n).length ≤ 4 * n
  | 0 => by simp [encM]
  | n + 1 => by
    have := encM_len e pl m n
    have h2 := putL_len (e := e) (l := at2 m (pc m.length (framesB m) pl n) (pf m.length (framesB m) pl n))
    rw [encM_succ, List.length_append]
    omega
def mapM (g : Int → Int) (b : List (List Int)) : List (List Int) := b.map fun r => r.map g
end Go.Abs
/- Contracts of Peak and Power, the program's and the reference's. -/
set_option maxHeartbeats 2000000
set_option maxRecDepth 20000
namespace Go.Abs
open Go Go.Proofs

def absI (x : Int) : Int := max x (0 - x)
theorem mul_bdd {a x A B : Int} (ha : -A ≤ a ∧ a ≤ A) (hx : -B ≤ x ∧ x ≤ B) : -(A * B) ≤ a * x ∧ a * x ≤ A * B := by
  have hA : 0 ≤ A := by omega
  have hB : 0 ≤ B := by omega
  have h3 := Int.mul_nonneg hA hB
  rcases Int.le_total 0 a with h | h
  · rcases Int.le_total 0 x with g | g
    · have h1 : a * x ≤ A * B := Int.mul_le_mul ha.2 hx.2 g hA
      have h2 := Int.mul_nonneg h g
      omega
    · have h1 : a * (0 - x) ≤ A * B := Int.mul_le_mul ha.2 (by omega) (by omega) hA
      have h2 := Int.mul_nonneg h (show 0 ≤ 0 - x by omega)
      have e : a * (0 - x) = 0 - a * x := by rw [Int.mul_sub, Int.mul_zero]
      omega
  · rcases Int.le_total 0 x with g | g
    · have h1 : (0 - a) * x ≤ A * B := Int.mul_le_mul (by omega) hx.2 g hA
      have h2 := Int.mul_nonneg (show 0 ≤ 0 - a by omega) g
      have e : (0 - a) * x = 0 - a * x := by rw [Int.sub_mul, Int.zero_mul]
      omega
    · have h1 : (0 - a) * (0 - x) ≤ A * B := Int.mul_le_mul (by omega) (by omega) (by omega) hA
      have h2 := Int.mul_nonneg (show 0 ≤ 0 - a by omega) (show 0 ≤ 0 - x by omega)
      have e : (0 - a) * (0 - x) = a * x := by rw [Int.sub_mul, Int.zero_mul, Int.mul_sub, Int.mul_zero]; omega
      omega
def peakF (r : List Int) : Int := r.foldl (fun n x => max n (absI x)) 0
def sqF (r : List Int) : Int := r.foldl (fun n x => n + x * x) 0
def powF (r : List Int) : Int := if 0 < r.length then rnd (sqF r) r.length else 0
def measM (g : List Int → Int) (b : List (List Int)) : List Int := if blockB b = true then b.map g else []
def measE (b : List (List Int)) : Int := if blockB b = true then 0 else 1
end Go.Abs
/- Reading bytes: what the program takes and what the reference reads. -/
set_option maxHeartbeats 2000000
set_option maxRecDepth 20000
namespace Go.Abs
open Go Go.Proofs

def leV : List Int → Int
  | [] => 0
  | b :: bs => b + 256 * leV bs
def bytesAt (t : ByteArray) (o n : Nat) (g : Bool) : List Int := (List.range n).map fun i => sAt t (o + if g = true then n - 1 - i else i)
def rawV (v half : Int) : Int := if half ≤ v then v - 2 * half else v
def halfN (n : Nat) : Int := 128 * 256 ^ (n - 1)
def nB (e : Int) : Nat := ((e + 1) / 2).toNat
def bigE (e : Int) : Bool := decide (2 < e ∧ e % 2 = 0)
def rawD (e : Int) (t : ByteArray) (o : Nat) : Int := if e = 2 then sAt t o - 128 else rawV (leV (bytesAt t o (nB e) (bigE e))) (maxF e + 1)
def levD (e : Int) (t : ByteArray) (o : Nat) : Int := max (rawD e t o) (0 - maxF e)
end Go.Abs
/- Contracts of Decode, the program's. -/
set_option maxHeartbeats 2000000
set_option maxRecDepth 20000
namespace Go.Abs
open Go Go.Proofs

def idx (pl : Bool) (C N c f : Nat) : Nat := if pl = true then c * N + f else f * C + c
theorem idx_place {pl : Bool} {C N i : Nat} : idx pl C N (pc C N pl i) (pf C N pl i) = i := by
  unfold idx pc pf
  cases pl with
  | true =>
    simp only [if_true]
    rw [Nat.mul_comm]; exact Nat.div_add_mod i N
  | false =>
    simp only [Bool.false_eq_true, if_false]
    rw [Nat.mul_comm]; exact Nat.div_add_mod i C
theorem place_idx {pl : Bool} {C N c f : Nat} (hc : c < C) (hf : f < N) : pc C N pl (idx pl C N c f) = c ∧ pf C N pl (idx pl C N c f) = f := by
  unfold idx pc pf
  cases pl with
  | true =>
    simp only [if_true]
    rw [Nat.mul_comm]
    exact ⟨by rw [Nat.mul_add_div (by omega), Nat.div_eq_of_lt hf]; rfl, by rw [Nat.mul_add_mod, Nat.mod_eq_of_lt hf]⟩
  | false =>
    simp only [Bool.false_eq_true, if_false]
    rw [Nat.mul_comm]
    exact ⟨by rw [Nat.mul_add_mod, Nat.mod_eq_of_lt hc], by rw [Nat.mul_add_div (by omega), Nat.div_eq_of_lt hc]; rfl⟩
theorem idx_lt {pl : Bool} {C N c f : Nat} (hc : c < C) (hf : f < N) : idx pl C N c f < C * N := by
  unfold idx
  cases pl with
  | true =>
    simp only [if_true]
    calc c * N + f < c * N + N := by omega
      _ = (c + 1) * N := by rw [Nat.add_mul]; omega
      _ ≤ C * N := Nat.mul_le_mul_right _ hc
  | false =>
    simp only [Bool.false_eq_true, if_false]
    calc f * C + c < f * C + C := by omega
      _ = (f + 1) * C := by rw [Nat.add_mul]; omega
      _ ≤ N * C := Nat.mul_le_mul_right _ hf
      _ = C * N := Nat.mul_comm _ _
theorem fill_idx {pl : Bool} {C N i : Nat} {g : Nat → Nat → Int} {v : Int} (hv : v = g (pc C N pl i) (pf C N pl i)) (hi : i < C * N) (c f : Nat) (hc : c < C) (hf : f < N) :
    (if c = pc C N pl i ∧ f = pf C N pl i then v else if idx pl C N c f < i then g c f else 0) = if idx pl C N c f < i + 1 then g c f else 0 := by
  by_cases h : c = pc C N pl i ∧ f = pf C N pl i
  · rw [if_pos h, hv]
    obtain ⟨rfl, rfl⟩ := h
    rw [idx_place, if_pos (by omega)]
  · rw [if_neg h]
    have hne : idx pl C N c f ≠ i := fun e => by
      obtain ⟨h1, h2⟩ := place_idx (pl := pl) hc hf
      rw [e] at h1 h2
      exact h ⟨h1.symm, h2.symm⟩
    by_cases h2 : idx pl C N c f < i
    · rw [if_pos h2, if_pos (by omega)]
    · rw [if_neg h2, if_neg (by omega)]
def decN (e : Int) (C : Nat) (s : ByteArray) : Nat := s.size / (nB e * C)
def decE (e C : Int) (s : ByteArray) : Int := if enc e ∧ 1 ≤ C ∧ C ≤ 8 then if s.size % (nB e * C.toNat) = 0 ∧ decN e C.toNat s ≤ 4096 then 0 else 11 else 7
def levAt (e : Int) (pl : Bool) (C : Nat) (s : ByteArray) (c f : Nat) : Int := levD e s (nB e * idx pl C (decN e C s) c f)
def levM (e : Int) (pl : Bool) (C : Int) (s : ByteArray) : List (List Int) := if decE e C s = 0 then matF (levAt e pl C.toNat s) C.toNat (decN e C.toNat s) else []
def decM (e : Int) (pl : Bool) (C : Int) (s : ByteArray) : List (List Int) := if decE e C s = 0 then matF (fun c f => sampF e (levAt e pl C.toNat s c f)) C.toNat (decN e C.toNat s) else []
theorem cod_form {e : Int} (he : enc e) : ∃ t x, codAt e = .iface t x := by
  rcases cod_cases he with ⟨b, g, h⟩ | h
  · exact ⟨_, _, h⟩
  · exact ⟨_, _, h⟩
theorem bits_w {e b : Int} {w : Value} (hw : codAt e = w) (he : enc e) (hb : bitsF e = b) {H : AHeap} {K : CK} (h : K (.returned (iv b)) H) : invS P w "continuo/sample.bits" [] H K := hw ▸ bits_v he hb h
attribute [local irreducible] sampF rawD levD levAt nB decN idx pc pf maxF decE leV bytesAt
end Go.Abs
/- Laws of bytes: what is written is read back; samples behind levels are near. -/
set_option maxHeartbeats 1000000
set_option maxRecDepth 20000
namespace Go.Abs
open Go Go.Proofs

theorem encS_size (e : Int) (pl : Bool) (b : List (List Int)) : (encS e pl b).size ≤ 131072 := by
  unfold encS
  by_cases h : blockB b = true ∧ enc e
  · rw [if_pos h, bstr_len]
    obtain ⟨hC, hR⟩ := blockB_rows h.1
    have h1 := encN_len e pl b (b.length * framesB b)
    have h2 : b.length * framesB b ≤ 8 * 4096 := Nat.mul_le_mul hC.2 (by have := hR b[0] (List.getElem_mem (by omega)); omega)
    unfold encL
    omega
  · rw [if_neg h]
    show 0 ≤ _
    omega
theorem arg_bool {DH : Type} {H : AHeap} {t : TypeId} {v : Value} {d : DataW DH} (h : ReadsArg tt H t v d) (ht : dAt tt t = some .bool) : ∃ x, v = .bool x := by
  obtain ⟨x, h1⟩ := arg_one h (dec_bool ht) (by rw [ht]; rfl)
  cases h1
  exact ⟨x, rfl⟩
end Go.Abs
/- Contracts of the reference's Levels and Decode. -/
set_option maxHeartbeats 2000000
set_option maxRecDepth 20000
namespace Go.Abs
open Go Go.Proofs

attribute [local irreducible] sampF rawD levD levAt nB decN idx pc pf maxF decE leV bytesAt
end Go.Abs
