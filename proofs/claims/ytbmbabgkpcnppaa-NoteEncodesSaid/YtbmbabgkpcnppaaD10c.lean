/- The program's Reader. No conditions beyond those stated. -/
import Derived.Test.YtbmbabgkpcnppaaC10c
set_option linter.all false
set_option maxHeartbeats 2000000
set_option maxRecDepth 20000
namespace Go.Abs
open Go Go.Proofs

structure FS where
  S : MS
  sk : Int
  out : List Ev
def feedB (c : Int) (S : MS) (sk : Int) : MS × Int × Option Ev :=
  if (stepS c S).2.2 = true then (if 128 ≤ c ∧ c ≤ 240 then (begS c true, sk + pend S, none) else (⟨0, 0, S.sent, []⟩, sk + pend S + 1, none)) else ((stepS c S).1, sk, (stepS c S).2.1)
def feedN (s : ByteArray) (S : MS) (sk : Int) : Nat → FS
  | 0 => ⟨S, sk, []⟩
  | i + 1 => ⟨(feedB (sAt s i) (feedN s S sk i).S (feedN s S sk i).sk).1, (feedB (sAt s i) (feedN s S sk i).S (feedN s S sk i).sk).2.1, (feedN s S sk i).out ++ (feedB (sAt s i) (feedN s S sk i).S (feedN s S sk i).sk).2.2.toList⟩
theorem sAt_bd (s : ByteArray) (i : Nat) : 0 ≤ sAt s i ∧ sAt s i < 256 := by
  unfold sAt
  have := (s.data.toList.getD i 0).toNat_lt
  omega
theorem ok_fresh (b : Bool) : OkS ⟨0, 0, b, []⟩ := ⟨.inl rfl, .inl ⟨rfl, rfl⟩, fun x hx => absurd hx (by simp)⟩
/-! events in memory -/
def flatEv (fr : Int) : List Ev → List Value
  | [] => []
  | e :: es => evL fr e ++ flatEv fr es
def OEv (H : AHeap) (base : Nat) (v : Value) (fr : Int) (es : List Ev) : Prop :=
  (v = .slice none 0 0 ∧ es = []) ∨ ∃ o, v = .slice (some ⟨o, 0, none⟩) es.length es.length ∧ H.get o = some (.cells (flatEv fr es) true 6) ∧ base ≤ o ∧ o < H.size
theorem part_ne {H : AHeap} {mb po o : Nat} {br : Bool} {pv : Value} {S : MS} {rest : List Value} {c : List Value} (h : MachP H mb po br pv S rest) (hm : o ≠ mb) (g : H.get o = some (.cells c true 6)) : o ≠ po := fun e => by
  rcases h.pt with ⟨_, _, rfl⟩ | ⟨_, gp, _, _⟩
  · exact hm e
  · rw [e] at g
    rw [g] at gp
    cases gp
section
variable {mb po : Nat} {br : Bool} {pv : Value} {S : MS} {H : AHeap} {K : CK}
theorem stepWo {c : Int} {S : MS} (h : (stepS c S).2.2 = true) : (stepS c S).2.1 = none := by
  unfold stepS at h ⊢
  split at h
  · cases h
  · rename_i h1
    rw [if_neg h1]
    split at h
    · rename_i h2
      rw [if_pos h2]
      split at h
      · cases h
      · rename_i h3
        rw [if_neg h3]
        split at h
        · rename_i h4
          rw [if_pos h4]
        · cases h
    · rename_i h2
      rw [if_neg h2]
      split at h
      · cases h
      · rename_i h3
        rw [if_neg h3]
        split at h
        · rename_i h4
          rw [if_pos h4]
        · rw [pushD_w] at h
          cases h
theorem take_v {rest : List Value} {c : Int} {S' : MS} {o : Option Ev} {w : Bool} (he : stepS c S = (S', o, w)) (hM : MachP H mb po br pv S rest) (hok : OkS S) (hc : 0 ≤ c ∧ c < 256) (h : ∀ H' po' br' pv', MFr H H' mb po po' → MachP H' mb po' br' pv' S' rest →
    K (.returned (.tuple #[.agg ⟨evL 0 (evO o)⟩, .bool o.isSome, .bool (!w)])) H') : callS P (fnV 52) [.pointer (some ⟨mb, 0, none⟩), .int .u8 c] H K :=
  take_c hM hok hc (by rw [he]; exact h)
structure RSt where
  i : Nat
  H : AHeap
  po : Nat
  br : Bool
  pv : Value
  v : Value
structure RInv (H : AHeap) (mb po0 : Nat) (s : ByteArray) (S : MS) (sk fr : Int) (r : RSt) : Prop where
  le : r.i ≤ s.size
  mfr : MFr H r.H mb po0 r.po
  m : MachP r.H mb r.po r.br r.pv (feedN s S sk r.i).S [iv fr, iv (feedN s S sk r.i).sk]
  o : OEv r.H H.size r.v fr (feedN s S sk r.i).out
theorem MFr.trans {H H1 H2 : AHeap} {mb a b c : Nat} (h : MFr H H1 mb a b) (g : MFr H1 H2 mb b c) (hmb : mb < H.size) (ha : a < H.size) : MFr H H2 mb a c where
  size := Nat.le_trans h.size g.size
  get j h1 h2 h3 := (g.get j (Nat.lt_of_lt_of_le h1 h.size) h2 (by have := h.po; omega)).trans (h.get j h1 h2 h3)
  po := by have := h.po; have := g.po; have := h.size; omega
structure MFrX (H H' : AHeap) (mb po po' o : Nat) : Prop where
  size : H.size ≤ H'.size
  get : ∀ j, j < H.size → j ≠ mb → j ≠ po → j ≠ o → H'.get j = H.get j
  po : po' = po ∨ po' = mb ∨ H.size ≤ po'
end
end Go.Abs
/- The reference's reader, byte by byte. No conditions beyond those stated. -/
set_option maxHeartbeats 2000000
set_option maxRecDepth 20000
namespace Go.Abs
open Go Go.Proofs

theorem wrap_u8 (e : Int) : IntKind.u8.wrap e = e % 256 := by
  simp [IntKind.wrap, IntKind.signed, IntKind.bits]
theorem intK_u8 {e : Int} {K : Int → Prop} (he : 0 ≤ e ∧ e < 256) (h : K e) : intK .u8 e K := intK_of (by rw [wrap_u8, show e % 256 = e by omega]; exact h)
theorem bstr_size (d : List Int) : (bstr d).size = d.length := by
  unfold bstr strV
  simp [ByteArray.size]
theorem bstr_at {d : List Int} {i : Nat} (h : i < d.length) (hb : 0 ≤ d[i] ∧ d[i] < 256) : sAt (bstr d) i = d[i] := by
  unfold sAt bstr strV
  simp [h, byteV]
  omega
def rB (x : Int) : Int := if x = 0 then -1 else x
def rvL (S : MS) (sk fr : Int) : List Value := [iv (rB S.run), iv (rB S.beg), .bool S.sent, .string (bstr S.dat), iv sk, iv fr]
section
variable {H : AHeap} {K : CK}
end
end Go.Abs
/- The reference's step. No conditions beyond those stated. -/
set_option maxHeartbeats 2000000
set_option maxRecDepth 20000
namespace Go.Abs
open Go Go.Proofs

def EvV (H H' : AHeap) (v : Value) : Option Ev → Prop
  | none => v = .slice none 0 0
  | some e => ∃ o, v = .slice (some ⟨o, 0, none⟩) 1 1 ∧ H'.get o = some (.cells (evL 0 e) true 6) ∧ H.size ≤ o ∧ o < H'.size
section
variable {H : AHeap} {K : CK}
end
end Go.Abs
/- The reference's Feed, and lists of events compared. No conditions beyond those stated. -/
set_option maxHeartbeats 2000000
set_option maxRecDepth 20000
namespace Go.Abs
open Go Go.Proofs

section
variable {S : MS} {H : AHeap} {K : CK}
/-! lists compared -/
end
end Go.Abs
