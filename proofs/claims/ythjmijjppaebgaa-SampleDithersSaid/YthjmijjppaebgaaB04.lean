/- Reading bytes: what the program takes and what the reference reads. -/
import Derived.Test.YthjmijjppaebgaaU04
set_option linter.all false
set_option maxHeartbeats 2000000
set_option maxRecDepth 20000
namespace Go.Abs
open Go Go.Proofs

def leV : List Int → Int
  | [] => 0
  | b :: bs => b + 256 * leV bs
def bytesAt (t : ByteArray) (o n : Nat) (g : Bool) : List Int := (List.range n).map fun i => sAt t (o + if g = true then n - 1 - i else i)
def rawV (v half : Int) : Int := if half ≤ v then v - 2 * half else v
def halfN (n : Nat) : Int := 128 * 256 ^ (n - 1)
def nB (e : Int) : Nat := ((e + 1) / 2).toNat
def bigE (e : Int) : Bool := decide (2 < e ∧ e % 2 = 0)
def rawD (e : Int) (t : ByteArray) (o : Nat) : Int := if e = 2 then sAt t o - 128 else rawV (leV (bytesAt t o (nB e) (bigE e))) (maxF e + 1)
def levD (e : Int) (t : ByteArray) (o : Nat) : Int := max (rawD e t o) (0 - maxF e)
end Go.Abs
