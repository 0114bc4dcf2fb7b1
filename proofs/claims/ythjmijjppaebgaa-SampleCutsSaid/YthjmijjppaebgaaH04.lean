/- What a dither computes, step by step. -/
import Derived.Test.YthjmijjppaebgaaR04
set_option linter.all false
set_option maxHeartbeats 1000000
set_option maxRecDepth 20000
namespace Go.Abs
open Go Go.Proofs

def dstepL (e x r : Int) : Int := max (0 - maxF e) (min (maxF e) (rnd (x + (r.tmod (unitF e) - (unitF e).tdiv 2)) (unitF e)))
def dstepE (e l x : Int) : Int := max (0 - unitF e) (min (unitF e) (l * unitF e - x))
def dR (R : Int) : Nat → Int
  | 0 => R
  | i + 1 => nxt (dR R i)
def dX (b : List (List Int)) (E : List Int) (i : Nat) : Int := at2 b (pc b.length (framesB b) false i) (pf b.length (framesB b) false i) - E.getD (pc b.length (framesB b) false i) 0
def dE (e : Int) (sh : Bool) (b : List (List Int)) (R : Int) (E : List Int) : Nat → List Int
  | 0 => E
  | i + 1 => if sh = true then (dE e sh b R E i).set (pc b.length (framesB b) false i) (dstepE e (dstepL e (dX b (dE e sh b R E i) i) (dR R (i + 1))) (dX b (dE e sh b R E i) i)) else dE e sh b R E i
def dA (e : Int) (sh : Bool) (b : List (List Int)) (R : Int) (E : List Int) (i : Nat) : Int := dX b (dE e sh b R E i) i
def dL (e : Int) (sh : Bool) (b : List (List Int)) (R : Int) (E : List Int) (i : Nat) : Int := dstepL e (dA e sh b R E i) (dR R (i + 1))
def okE (E : List Int) : Prop := ∀ x ∈ E, -65536 ≤ x ∧ x ≤ 65536
theorem loadK_ints {H : AHeap} {o k : Nat} {xs : List Int} {K : Value → Prop} (h : H.get o = some (.cells (xs.map (Value.int .i64)) true 1)) (hk : k < xs.length) (hK : K (iv (xs.getD k 0))) : loadK H o (0 + (k : Int).toNat * 1) K := by
  refine loadK_get h ?_ hK
  simp [List.getD_eq_getElem?_getD, hk]
def dLm (e : Int) (sh : Bool) (b : List (List Int)) (R : Int) (E : List Int) (c f : Nat) : Int := dL e sh b R E (idx false b.length (framesB b) c f)
def dM (e : Int) (sh : Bool) (b : List (List Int)) (R : Int) (E : List Int) : List (List Int) := matF (dLm e sh b R E) b.length (framesB b)
def dithC (b : List (List Int)) (E : List Int) : Int := if blockB b = true then if b.length = E.length then 0 else 11 else 1
def dithS (e : Int) (sh pl : Bool) (b : List (List Int)) (R : Int) (E : List Int) : ByteArray := if dithC b E = 0 then bstr (encM e pl (dM e sh b R E) (b.length * framesB b)) else .empty
def dithR (b : List (List Int)) (R : Int) (E : List Int) : Int := if dithC b E = 0 then dR R (b.length * framesB b) else R
def dithE (e : Int) (sh : Bool) (b : List (List Int)) (R : Int) (E : List Int) : List Int := if dithC b E = 0 then dE e sh b R E (b.length * framesB b) else E
/-- without shaping there are no errors -/
def plainE (sh : Bool) (E : List Int) : Prop := sh = false → ∀ x ∈ E, x = 0
end Go.Abs
/- Contract of the dither's Encode, the program's. -/
set_option maxHeartbeats 2000000
set_option maxRecDepth 20000
namespace Go.Abs
open Go Go.Proofs

attribute [local irreducible] nB idx pc pf maxF bytesAt bstr unitF dE dL dA dR dX nxt dstepL dstepE encM dLm
theorem OMat.lower {H : AHeap} {b b' o : Nat} {rs : List Nat} {m : List (List Int)} {rest : List Value} (h : OMat H b o rs m rest) (hb : b' ≤ b) : OMat H b' o rs m rest :=
  { h with lo := ⟨Nat.le_trans hb h.lo.1, fun r hr => Nat.le_trans hb (h.lo.2 r hr)⟩ }
end Go.Abs
/- Contracts of the reference's dither. -/
set_option maxHeartbeats 2000000
set_option maxRecDepth 20000
namespace Go.Abs
open Go Go.Proofs

attribute [local irreducible] nB idx pc pf maxF bytesAt bstr unitF dE dL dA dR dX nxt dstepL dstepE encM dLm
end Go.Abs
/- The dither's contracts, joined. -/
set_option maxHeartbeats 1000000
set_option maxRecDepth 20000
namespace Go.Abs
open Go Go.Proofs

theorem DitN.own {H : AHeap} {d o : Nat} {e : Int} {sh : Bool} {R : Int} {E : List Int} (h : DitN H d o e sh R E) : ∀ j c sz, H.get j = some (.cells c false sz) → j ≠ d ∧ j ≠ o := fun j c sz hg =>
  ⟨fun hj => by rw [hj, h.gd] at hg; simp at hg, fun hj => by rw [hj, h.go] at hg; simp at hg⟩
theorem DitN.other {H H' : AHeap} {d o d2 o2 : Nat} {e2 : Int} {sh2 : Bool} {R2 : Int} {E2 : List Int} (h2 : DitN H d2 o2 e2 sh2 R2 E2) (hs : H.size ≤ H'.size) (hsame : ∀ j, j < H.size → j ≠ d → j ≠ o → H'.get j = H.get j)
    (n1 : d2 ≠ d) (n2 : d2 ≠ o) (n3 : o2 ≠ d) (n4 : o2 ≠ o) : DitN H' d2 o2 e2 sh2 R2 E2 :=
  ⟨h2.ne, Nat.lt_of_lt_of_le h2.ld hs, Nat.lt_of_lt_of_le h2.lo hs, (hsame _ h2.ld n1 n2).trans h2.gd, (hsame _ h2.lo n3 n4).trans h2.go⟩
end Go.Abs
