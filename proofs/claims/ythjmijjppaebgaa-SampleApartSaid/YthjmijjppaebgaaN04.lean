/- Contracts of the reference's dither. -/
import Derived.Test.YthjmijjppaebgaaH04
import Derived.Test.YthjmijjppaebgaaI04
set_option linter.all false
set_option maxHeartbeats 2000000
set_option maxRecDepth 20000
namespace Go.Abs
open Go Go.Proofs

attribute [local irreducible] nB idx pc pf maxF bytesAt bstr unitF dE dL dA dR dX nxt dstepL dstepE encM dLm
end Go.Abs
/- The dither's contracts, joined. -/
set_option maxHeartbeats 1000000
set_option maxRecDepth 20000
namespace Go.Abs
open Go Go.Proofs

theorem DitN.own {H : AHeap} {d o : Nat} {e : Int} {sh : Bool} {R : Int} {E : List Int} (h : DitN H d o e sh R E) : ∀ j c sz, H.get j = some (.cells c false sz) → j ≠ d ∧ j ≠ o := fun j c sz hg =>
  ⟨fun hj => by rw [hj, h.gd] at hg; simp at hg, fun hj => by rw [hj, h.go] at hg; simp at hg⟩
theorem DitN.keep {H H' : AHeap} {d o : Nat} {e : Int} {sh : Bool} {R : Int} {E : List Int} (h : DitN H d o e sh R E) (hs : H.size ≤ H'.size) (hsame : ∀ j, j < H.size → j ≠ d → j ≠ o → H'.get j = H.get j) : Kp H H' :=
  ⟨hs, fun j c sz hj hg => (hsame j hj (h.own j c sz hg).1 (h.own j c sz hg).2).trans hg⟩
theorem DitN.other {H H' : AHeap} {d o d2 o2 : Nat} {e2 : Int} {sh2 : Bool} {R2 : Int} {E2 : List Int} (h2 : DitN H d2 o2 e2 sh2 R2 E2) (hs : H.size ≤ H'.size) (hsame : ∀ j, j < H.size → j ≠ d → j ≠ o → H'.get j = H.get j)
    (n1 : d2 ≠ d) (n2 : d2 ≠ o) (n3 : o2 ≠ d) (n4 : o2 ≠ o) : DitN H' d2 o2 e2 sh2 R2 E2 :=
  ⟨h2.ne, Nat.lt_of_lt_of_le h2.ld hs, Nat.lt_of_lt_of_le h2.lo hs, (hsame _ h2.ld n1 n2).trans h2.gd, (hsame _ h2.lo n3 n4).trans h2.go⟩
theorem dithS_def (e : Int) (sh pl : Bool) (b : List (List Int)) (R : Int) (E : List Int) : dithS e sh pl b R E = if dithC b E = 0 then bstr (encM e pl (dM e sh b R E) (b.length * framesB b)) else .empty := rfl
theorem okE_zero (n : Nat) : okE (List.replicate n 0) := fun x hx => by rw [List.eq_of_mem_replicate hx]; omega
theorem okE_inR {E : List Int} (h : okE E) : ∀ x ∈ E, inR x := fun x hx => by have := h x hx; unfold inR; omega
end Go.Abs
