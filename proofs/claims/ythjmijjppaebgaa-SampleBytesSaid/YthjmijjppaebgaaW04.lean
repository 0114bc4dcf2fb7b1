/- Contracts of the reference's bytes: written, laid, Encode. -/
import Derived.Test.YthjmijjppaebgaaZ04
set_option linter.all false
set_option maxHeartbeats 2000000
set_option maxRecDepth 20000
namespace Go.Abs
open Go Go.Proofs

theorem refBits_v {e b : Int} (he : enc e) (hb : bitsF e = b) {H : AHeap} {K : CK} (h : K (.returned (.tuple #[iv b, iv 0])) H) : callS P (fnV 11) [iv e] H K := by
  subst hb
  exact refBits_t he h
theorem intK_eq {a v : Int} {K : Int → Prop} (hv : a = v) (hr : -9223372036854775808 ≤ v ∧ v ≤ 9223372036854775807) (hk : K v) : intK .i64 a K := by
  subst hv
  exact intK_in hr hk
theorem rngN {n i : Nat} (h : n ≤ i) (hi : i ≤ 1000000) : -9223372036854775808 ≤ (n : Int) ∧ (n : Int) ≤ 9223372036854775807 := by omega
def wrS (e : Int) (m : List (List Int)) (pl : Bool) : Nat → ByteArray
  | 0 => .empty
  | n + 1 => wrS e m pl n ++ bstr (putL e (at2 m (pc m.length (framesB m) pl n) (pf m.length (framesB m) pl n)))
theorem bstr_len (bs : List Int) : (bstr bs).size = bs.length := by simp [bstr, strV, ByteArray.size]
def encM (e : Int) (pl : Bool) (m : List (List Int)) (n : Nat) : List Int := ((List.range n).map fun i => putL e (at2 m (pc m.length (framesB m) pl i) (pf m.length (framesB m) pl i))).flatten
def mapM (g : Int → Int) (b : List (List Int)) : List (List Int) := b.map fun r => r.map g
end Go.Abs
