/- Contracts of rounding and bounding. No conditions beyond those stated. -/
import Derived.Test.YthjmijjppaebgaaM04
set_option linter.all false
set_option maxHeartbeats 400000
set_option maxRecDepth 20000
namespace Go.Abs
open Go Go.Proofs
def rnd (a n : Int) : Int := if a < 0 then 0 - ((0 - a + n.tdiv 2).tdiv n) else (a + n.tdiv 2).tdiv n
/-- a row of whole numbers in memory -/
def rnd2 (a n : Int) : Int := if n - a.tmod n ≤ a.tmod n then a.tdiv n + 1 else a.tdiv n
end Go.Abs
/- Contracts of encodings' numbers: bits, levels, samples, sizes. -/
set_option maxHeartbeats 400000
set_option maxRecDepth 20000
namespace Go.Abs
open Go Go.Proofs

def codV (b : Int) (g : Bool) : Value := .iface 102 (.agg #[iv b, .bool g])
def codL : List Value := [.nilIface, codV 1 false, .iface 104 (.agg #[]), codV 2 false, codV 2 true, codV 3 false, codV 3 true, codV 4 false, codV 4 true]
def codAt (e : Int) : Value := codL.getD e.toNat .nilIface
def bitsF (e : Int) : Int := 8 * ((e + 1) / 2)
abbrev enc (e : Int) : Prop := 1 ≤ e ∧ e ≤ 8
def unitF (e : Int) : Int := if e ≤ 2 then 65536 else 256
def maxF (e : Int) : Int := if e ≤ 2 then 127 else if e ≤ 4 then 32767 else if e ≤ 6 then 8388607 else 2147483647
def clipS (x : Int) : Int := max (0 - 8388607) (min 8388607 x)
def levF (e x : Int) : Int := if 7 ≤ e then x * 256 else if 5 ≤ e then x else max (0 - maxF e) (min (maxF e) (rnd x (unitF e)))
def sampF (e l : Int) : Int := if 7 ≤ e then clipS (rnd l 256) else if 5 ≤ e then l else l * unitF e
abbrev inS (x : Int) : Prop := -8388607 ≤ x ∧ x ≤ 8388607
/-! the reference -/
end Go.Abs
/- Bytes of levels: what the program writes and what the reference writes. -/
set_option maxHeartbeats 1000000
set_option maxRecDepth 20000
namespace Go.Abs
open Go Go.Proofs

def bstr (bs : List Int) : ByteArray := strV (bs.map (Value.int .u8))
def OBy (H : AHeap) (base : Nat) (v : Value) (bs : List Int) : Prop :=
  (v = .slice none 0 0 ∧ bs = []) ∨ ∃ o, v = .slice (some ⟨o, 0, none⟩) bs.length bs.length ∧ H.get o = some (.cells (bs.map (Value.int .u8)) true 1) ∧ base ≤ o ∧ o < H.size
def byteF (l : Int) (r : Nat) : Int := shrOf .i64 l (8 * (r : Int)) % 256
def putL (e l : Int) : List Int :=
  if e = 1 then [byteF l 0] else if e = 2 then [(l + 128) % 256] else if e = 3 then [byteF l 0, byteF l 1] else if e = 4 then [byteF l 1, byteF l 0]
  else if e = 5 then [byteF l 0, byteF l 1, byteF l 2] else if e = 6 then [byteF l 2, byteF l 1, byteF l 0]
  else if e = 7 then [byteF l 0, byteF l 1, byteF l 2, byteF l 3] else [byteF l 3, byteF l 2, byteF l 1, byteF l 0]
structure Outs (H H' : AHeap) (v : Value) : Prop where
  size : H.size ≤ H'.size
  get : ∀ i, i < H.size → (∀ o n c, v = .slice (some ⟨o, 0, none⟩) n c → i ≠ o) → H'.get i = H.get i
end Go.Abs
/- Contract of Encode, the program's. -/
set_option maxHeartbeats 2000000
set_option maxRecDepth 20000
namespace Go.Abs
open Go Go.Proofs

def pc (C N : Nat) (pl : Bool) (i : Nat) : Nat := if pl = true then i / N else i % C
def pf (C N : Nat) (pl : Bool) (i : Nat) : Nat := if pl = true then i % N else i / C
def encN (e : Int) (pl : Bool) (b : List (List Int)) (n : Nat) : List Int := ((List.range n).map fun i => putL e (levF e (at2 b (pc b.length (framesB b) pl i) (pf b.length (framesB b) pl i)))).flatten
def encL (e : Int) (pl : Bool) (b : List (List Int)) : List Int := encN e pl b (b.length * framesB b)
def encS (e : Int) (pl : Bool) (b : List (List Int)) : ByteArray := if blockB b = true ∧ enc e then bstr (encL e pl b) else .empty
def encE (e : Int) (b : List (List Int)) : Int := if blockB b = true then if enc e then 0 else 7 else 1
theorem OBy.ne {H : AHeap} {base : Nat} {v : Value} {bs : List Int} (h : OBy H base v bs) {i : Nat} (hi : i < base) : ∀ o n c, v = .slice (some ⟨o, 0, none⟩) n c → i ≠ o := by
  intro o n c e
  rcases h with ⟨h1, _⟩ | ⟨o', h1, _, h2, _⟩
  · rw [h1] at e; cases e
  · rw [h1] at e
    injection e with e1
    injection e1 with e1
    injection e1 with e1
    omega
theorem OBy.slice {H : AHeap} {base : Nat} {v : Value} {bs : List Int} (h : OBy H base v bs) : ∃ p n c, v = .slice p n c := by
  rcases h with ⟨h1, _⟩ | ⟨o', h1, _⟩
  · exact ⟨_, _, _, h1⟩
  · exact ⟨_, _, _, h1⟩
theorem OBy.of_get {H H' : AHeap} {base : Nat} {v : Value} {bs : List Int} (h : OBy H base v bs) (hs : H.size ≤ H'.size) (hg : ∀ i, base ≤ i → i < H.size → H'.get i = H.get i) : OBy H' base v bs := by
  rcases h with h | ⟨o, h1, h2, h3, h4⟩
  · exact .inl h
  · exact .inr ⟨o, h1, (hg o h3 h4).trans h2, h3, Nat.lt_of_lt_of_le h4 hs⟩
theorem blockB_rows {m : List (List Int)} (h : blockB m = true) : (1 ≤ m.length ∧ m.length ≤ 8) ∧ ∀ r ∈ m, r.length = framesB m ∧ r.length ≤ 4096 ∧ ∀ x ∈ r, -8388607 ≤ x ∧ x ≤ 8388607 := by
  unfold blockB at h
  simp only [Bool.and_eq_true, decide_eq_true_eq] at h
  refine ⟨h.1, fun r hr => ?_⟩
  have h2 := List.all_eq_true.1 h.2 r hr
  simp only [rowOk, Bool.and_eq_true, decide_eq_true_eq] at h2
  refine ⟨h2.1.1, h2.1.2, fun x hx => ?_⟩
  have h3 := List.all_eq_true.1 h2.2 x hx
  simpa [okS] using h3
theorem frames0 {m : List (List Int)} (h : 0 < m.length) : framesB m = m[0].length := by rw [framesB, headD_eq h]

end Go.Abs
/- Contracts of the reference's bytes: written, laid, Encode. -/
set_option maxHeartbeats 2000000
set_option maxRecDepth 20000
namespace Go.Abs
open Go Go.Proofs

def wrS (e : Int) (m : List (List Int)) (pl : Bool) : Nat → ByteArray
  | 0 => .empty
  | n + 1 => wrS e m pl n ++ bstr (putL e (at2 m (pc m.length (framesB m) pl n) (pf m.length (framesB m) pl n)))
def encM (e : Int) (pl : Bool) (m : List (List Int)) (n : Nat) : List Int := ((List.range n).map fun i => putL e (at2 m (pc m.length (framesB m) pl i) (pf m.length (framesB m) pl i))).flatten
def mapM (g : Int → Int) (b : List (List Int)) : List (List Int) := b.map fun r => r.map g
end Go.Abs
/- Contracts of Peak and Power, the program's and the reference's. -/
set_option maxHeartbeats 2000000
set_option maxRecDepth 20000
namespace Go.Abs
open Go Go.Proofs

def absI (x : Int) : Int := max x (0 - x)
def peakF (r : List Int) : Int := r.foldl (fun n x => max n (absI x)) 0
def sqF (r : List Int) : Int := r.foldl (fun n x => n + x * x) 0
def powF (r : List Int) : Int := if 0 < r.length then rnd (sqF r) r.length else 0
def measM (g : List Int → Int) (b : List (List Int)) : List Int := if blockB b = true then b.map g else []
def measE (b : List (List Int)) : Int := if blockB b = true then 0 else 1
end Go.Abs
/- Reading bytes: what the program takes and what the reference reads. -/
set_option maxHeartbeats 2000000
set_option maxRecDepth 20000
namespace Go.Abs
open Go Go.Proofs

def leV : List Int → Int
  | [] => 0
  | b :: bs => b + 256 * leV bs
def bytesAt (t : ByteArray) (o n : Nat) (g : Bool) : List Int := (List.range n).map fun i => sAt t (o + if g = true then n - 1 - i else i)
def rawV (v half : Int) : Int := if half ≤ v then v - 2 * half else v
def halfN (n : Nat) : Int := 128 * 256 ^ (n - 1)
def nB (e : Int) : Nat := ((e + 1) / 2).toNat
def bigE (e : Int) : Bool := decide (2 < e ∧ e % 2 = 0)
def rawD (e : Int) (t : ByteArray) (o : Nat) : Int := if e = 2 then sAt t o - 128 else rawV (leV (bytesAt t o (nB e) (bigE e))) (maxF e + 1)
def levD (e : Int) (t : ByteArray) (o : Nat) : Int := max (rawD e t o) (0 - maxF e)
end Go.Abs
/- Contracts of Decode, the program's. -/
set_option maxHeartbeats 2000000
set_option maxRecDepth 20000
namespace Go.Abs
open Go Go.Proofs

def idx (pl : Bool) (C N c f : Nat) : Nat := if pl = true then c * N + f else f * C + c
def decN (e : Int) (C : Nat) (s : ByteArray) : Nat := s.size / (nB e * C)
def decE (e C : Int) (s : ByteArray) : Int := if enc e ∧ 1 ≤ C ∧ C ≤ 8 then if s.size % (nB e * C.toNat) = 0 ∧ decN e C.toNat s ≤ 4096 then 0 else 11 else 7
def levAt (e : Int) (pl : Bool) (C : Nat) (s : ByteArray) (c f : Nat) : Int := levD e s (nB e * idx pl C (decN e C s) c f)
def levM (e : Int) (pl : Bool) (C : Int) (s : ByteArray) : List (List Int) := if decE e C s = 0 then matF (levAt e pl C.toNat s) C.toNat (decN e C.toNat s) else []
def decM (e : Int) (pl : Bool) (C : Int) (s : ByteArray) : List (List Int) := if decE e C s = 0 then matF (fun c f => sampF e (levAt e pl C.toNat s c f)) C.toNat (decN e C.toNat s) else []
attribute [local irreducible] sampF rawD levD levAt nB decN idx pc pf maxF decE leV bytesAt
end Go.Abs
/- Laws of bytes: what is written is read back; samples behind levels are near. -/
set_option maxHeartbeats 1000000
set_option maxRecDepth 20000
namespace Go.Abs
open Go Go.Proofs

end Go.Abs
/- Contracts of the reference's Levels and Decode. -/
set_option maxHeartbeats 2000000
set_option maxRecDepth 20000
namespace Go.Abs
open Go Go.Proofs

attribute [local irreducible] sampF rawD levD levAt nB decN idx pc pf maxF decE leV bytesAt
end Go.Abs
/- Contracts of the program's dither: its random numbers, its making, its errors and its copy. -/
set_option maxHeartbeats 1000000
set_option maxRecDepth 20000
namespace Go.Abs
open Go Go.Proofs

def nxt (R : Int) : Int := (R * 1103515245 + 12345).tmod 2147483648
abbrev inD (R : Int) : Prop := 0 ≤ R ∧ R < 2147483648
structure DitN (H : AHeap) (d o : Nat) (e : Int) (sh : Bool) (R : Int) (E : List Int) : Prop where
  ne : d ≠ o
  ld : d < H.size
  lo : o < H.size
  gd : H.get d = some (.cells [iv R, iv e, .bool sh, .slice (some ⟨o, 0, none⟩) E.length E.length] true 0)
  go : H.get o = some (.cells (E.map (Value.int .i64)) true 1)
theorem DitN.le {H H' : AHeap} {d o : Nat} {e : Int} {sh : Bool} {R : Int} {E : List Int} (h : DitN H d o e sh R E) (hl : H.le H') : DitN H' d o e sh R E :=
  ⟨h.ne, Nat.lt_of_lt_of_le h.ld hl.size, Nat.lt_of_lt_of_le h.lo hl.size, (hl.get d h.ld).trans h.gd, (hl.get o h.lo).trans h.go⟩
def newE (e seed C : Int) : Int := if enc e ∧ (1 ≤ C ∧ C ≤ 8) ∧ (1 ≤ seed ∧ seed ≤ 2147483647) then if e ≤ 4 then 0 else 10 else 7
end Go.Abs
