/- A single event among bytes: what the machine makes of it, and the reference's single. No conditions beyond those stated. -/
import Derived.Test.YtbmbabgkpcnppaaI10c
set_option linter.all false
set_option maxHeartbeats 2000000
set_option maxRecDepth 20000
namespace Go.Abs
open Go Go.Proofs

inductive SR where
  | bad (p : Int)
  | ok (e : Ev) (p : Nat)
def runM (s : ByteArray) : Nat → Nat → MS → SR
  | 0, p, _ => .bad p
  | k + 1, p, S => match stepS (sAt s p) S with
    | (_, _, true) => .bad p
    | (S', none, false) => runM s k (p + 1) S'
    | (S', some e, false) => if (e.kind = 9 ∧ S'.beg ≠ 0) ∨ (S'.run / 16 = 9 ∧ e.kind = 1) then .bad p else .ok e (p + 1)
def datN (s : ByteArray) (q n : Nat) : List Int := (List.range n).map fun j => sAt s (q + j)
theorem run_next {s : ByteArray} {p : Nat} (h : p < s.size) {S : MS} : runM s (s.size - p) p S = match stepS (sAt s p) S with
    | (_, _, true) => .bad p
    | (S', none, false) => runM s (s.size - (p + 1)) (p + 1) S'
    | (S', some e, false) => if (e.kind = 9 ∧ S'.beg ≠ 0) ∨ (S'.run / 16 = 9 ∧ e.kind = 1) then .bad p else .ok e (p + 1) := by
  rw [show s.size - p = (s.size - (p + 1)) + 1 by omega]
  rfl
def SRK (H : AHeap) (K : CK) : SR → Prop
  | .bad q => ∀ H', H.le H' → K (.returned (.tuple #[.agg ⟨evL 0 ev0⟩, iv q, .bool false])) H'
  | .ok e q => ∀ H', H.le H' → K (.returned (.tuple #[.agg ⟨evL 0 e⟩, iv q, .bool true])) H'
section
variable {H : AHeap} {K : CK}
end
end Go.Abs
/- Events with frames: both Unpacks. No conditions beyond those stated. -/
set_option maxHeartbeats 4000000
set_option maxRecDepth 20000
namespace Go.Abs
open Go Go.Proofs

def nAt (s : ByteArray) (p : Nat) : Int × Int := numF (fun i => sAt s (p + i)) (s.size - p) 0 0
def unpR (s : ByteArray) : Nat → Nat → Int → List FE → DR
  | 0, _, _, out => ⟨out, 0, 0⟩
  | k + 1, p, fr, out =>
    if p < s.size then
      if (nAt s p).2 < 0 then ⟨out, s.size, 12⟩
      else if (nAt s p).2 = 0 ∨ 1000000000 < fr + (nAt s p).1 then ⟨out, p, 12⟩
      else match runM s (s.size - (p + (nAt s p).2.toNat)) (p + (nAt s p).2.toNat) ⟨0, 0, false, []⟩ with
        | .bad q => ⟨out, q, 12⟩
        | .ok e q => if out.length = 2000 then ⟨[], 0, 4⟩ else unpR s k q (fr + (nAt s p).1) (out ++ [(fr + (nAt s p).1, e)])
    else ⟨out, 0, 0⟩
def unpC (s : ByteArray) (k : Nat) (fr : Int) (out : List FE) : SR → DR
  | .bad q => ⟨out, q, 12⟩
  | .ok e q => if out.length = 2000 then ⟨[], 0, 4⟩ else unpR s k q fr (out ++ [(fr, e)])
theorem unp_next {s : ByteArray} {k p : Nat} {fr : Int} {out : List FE} (hp : p < s.size) (h0 : 0 < (nAt s p).2) (h1 : fr + (nAt s p).1 ≤ 1000000000) :
    unpR s (k + 1) p fr out = unpC s k (fr + (nAt s p).1) out (runM s (s.size - (p + (nAt s p).2.toNat)) (p + (nAt s p).2.toNat) ⟨0, 0, false, []⟩) := by
  rw [unpR, if_pos hp, if_neg (by omega), if_neg (by omega)]
  cases runM s (s.size - (p + (nAt s p).2.toNat)) (p + (nAt s p).2.toNat) ⟨0, 0, false, []⟩ <;> rfl
def unpS (s : ByteArray) : DR := if 65536 < s.size then ⟨[], 0, 3⟩ else unpR s s.size 0 0 []
theorem nAt_bd {s : ByteArray} {p : Nat} (hp : p ≤ s.size) : 0 ≤ (nAt s p).1 ∧ (nAt s p).1 < 34359738368 ∧ -1 ≤ (nAt s p).2 ∧ p + (nAt s p).2 ≤ s.size := by
  have := numF_bd (fun i => sAt s (p + i)) (s.size - p) 0 0 (by simp)
  unfold nAt
  omega
theorem ext_sAt {s : ByteArray} {p i : Nat} (hp : p ≤ s.size) : sAt (s.extract p s.size) i = sAt s (p + i) := by
  unfold sAt
  rw [ByteArray.data_extract]
  have : (s.data.extract p s.size).toList.getD i 0 = s.data.toList.getD (p + i) 0 := by
    rw [Array.toList_extract, List.getD_eq_getElem?_getD, List.getD_eq_getElem?_getD]
    have hl : s.data.toList.length = s.size := rfl
    simp only [List.extract, List.getElem?_take, List.getElem?_drop]
    split
    · rfl
    · rw [List.getElem?_eq_none (by omega)]
  rw [this]
theorem ext_size {s : ByteArray} {p : Nat} : (s.extract p s.size).size = s.size - p := by rw [ByteArray.size_extract]; omega
theorem nAt_ext {s : ByteArray} {p : Nat} (hp : p ≤ s.size) : numF (sAt (s.extract p s.size)) (s.extract p s.size).size 0 0 = nAt s p := by
  unfold nAt
  rw [ext_size, show sAt (s.extract p s.size) = fun i => sAt s (p + i) from funext fun i => ext_sAt hp]
structure RUt where
  p : Nat
  fr : Int
  k : Nat
  H : AHeap
  v : Value
  out : List FE
structure RUInv (H : AHeap) (s : ByteArray) (R : DR) (r : RUt) : Prop where
  le : r.p ≤ s.size
  hle : H.le r.H
  o : OFE r.H H.size r.v r.out
  n : r.out.length ≤ 2000
  f : 0 ≤ r.fr ∧ r.fr ≤ 1000000000
  k : s.size - r.p ≤ r.k
  e : unpR s r.k r.p r.fr r.out = R
section
variable {H : AHeap} {K : CK}
end
end Go.Abs
