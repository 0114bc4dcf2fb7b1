/- Contract of Apply, the program's. -/
import Derived.Test.YthadnbgkmfacmaaA03
set_option linter.all false
set_option maxHeartbeats 2000000
set_option maxRecDepth 20000
namespace Go.Abs
open Go Go.Proofs

theorem must_t {e : Int} {H : AHeap} {K : CK} (h : K (.returned (.tuple #[])) H) : callS P (fnV 42) [.bool true, iv e] H K := by
  refine callS_walk tt_ok Try.func42 rfl (by kernel_rfl) ?_
  conv => whnf
  repeat' ((conv => whnf); first | apply yA | apply yB | ((first | apply zA | apply zC | apply zE | apply zG); (· assumption)) | ((first | apply zB | apply zD | apply zF | apply zH); (· assumption)) | apply zM | apply zN | apply zO | apply zP | apply zQ | apply zR | apply zS | apply zT | apply zU | (apply zV; (· omega)) | (apply zW; (· omega)) | (apply zX; (· (first | omega | (dsimp only; omega)))) | (apply zY; (try (apply zY; apply zX; (· omega))); apply zX; (· omega); apply zX; (· (first | omega | (dsimp only; omega)))) | ((first | apply zA | apply zC | apply zE | apply zG); (· omega)) | ((first | apply zB | apply zD | apply zF | apply zH); (· omega)) | ((first | apply zI | apply zK); (· assumption)) | ((first | apply zJ | apply zL); (· assumption)) | fail)
  conv => whnf
  exact h
theorem must_f {e : Int} {H : AHeap} {K : CK} (h : K (.panicked [{ v := .iface 89 (.agg #[iv e]), recovered := false }]) H) : callS P (fnV 42) [.bool false, iv e] H K := by
  refine callS_walk tt_ok Try.func42 rfl (by kernel_rfl) ?_
  conv => whnf
  repeat' ((conv => whnf); first | apply yA | apply yB | ((first | apply zA | apply zC | apply zE | apply zG); (· assumption)) | ((first | apply zB | apply zD | apply zF | apply zH); (· assumption)) | apply zM | apply zN | apply zO | apply zP | apply zQ | apply zR | apply zS | apply zT | apply zU | (apply zV; (· omega)) | (apply zW; (· omega)) | (apply zX; (· (first | omega | (dsimp only; omega)))) | (apply zY; (try (apply zY; apply zX; (· omega))); apply zX; (· omega); apply zX; (· (first | omega | (dsimp only; omega)))) | ((first | apply zA | apply zC | apply zE | apply zG); (· omega)) | ((first | apply zB | apply zD | apply zF | apply zH); (· omega)) | ((first | apply zI | apply zK); (· assumption)) | ((first | apply zJ | apply zL); (· assumption)) | fail)
  conv => whnf
  exact h
theorem must_ok {b : Bool} {e : Int} {H : AHeap} {K : CK} (hb : b = true) (h : K (.returned (.tuple #[])) H) : callS P (fnV 42) [.bool b, iv e] H K := by subst hb; exact must_t h
theorem must_no {b : Bool} {e : Int} {H : AHeap} {K : CK} (hb : b = false) (h : K (.panicked [{ v := .iface 89 (.agg #[iv e]), recovered := false }]) H) : callS P (fnV 42) [.bool b, iv e] H K := by subst hb; exact must_f h
theorem caught_ret {c : Nat} {e0 : Int} {H : AHeap} {K : AEnd → FrameMode → AHeap → Prop} (hc : c < H.size) (hg : H.get c = some (.cells [iv e0] true 0))
    (h : ∀ H', H.le H' → H'.get c = some (.cells [iv e0] true 0) → K (.returned (.tuple #[])) .returning H') : defS P 41 [.pointer (some ⟨c, 0, none⟩)] .returning H K := by
  refine defS_walk tt_ok Try.func41 rfl (by kernel_rfl) ?_
  conv => whnf
  repeat' ((conv => whnf); first | ((first | (apply vB; (case h => assumption)) | (apply vA; (case h => assumption)) | (apply vC; (case h => assumption))); (case hk => exact kpA); (case he => omega)) | ((first | (apply vI; (case h => assumption)) | (apply vG; (case h => assumption)) | (apply vK; (case h => assumption))); (case hk => exact kpA); (case he => omega); (case hp => omega); (case' g => intro hr_ hc_)) | ((first | (apply vJ; (case h => assumption)) | (apply vH; (case h => assumption)) | (apply vL; (case h => assumption))); (case hk => exact kpA); (case he => omega); (case' g => intro hr_ hc_)) | (apply drawS_auto mixed tt_ok; (· kernel_rfl)) | apply zZ | apply yA | apply yB | ((first | apply zA | apply zC | apply zE | apply zG); (· assumption)) | ((first | apply zB | apply zD | apply zF | apply zH); (· assumption)) | apply zM | apply zN | apply zO | apply zP | apply zQ | apply zR | apply zS | apply zT | apply zU | (apply zV; (· omega)) | (apply zW; (· omega)) | (apply zX; (· (first | omega | (dsimp only; omega)))) | (apply zY; (try (apply zY; apply zX; (· omega))); apply zX; (· omega); apply zX; (· (first | omega | (dsimp only; omega)))) | ((first | apply yJ | apply yK | apply yL | apply yM | apply yN | apply yO); (· exact hgA); (· exact hsA)) | (apply yNP; (· exact hgA); (· exact hsA)) | ((first | apply zA | apply zC | apply zE | apply zG); (· omega)) | ((first | apply zB | apply zD | apply zF | apply zH); (· omega)) | ((first | apply zI | apply zK); (· assumption)) | ((first | apply zJ | apply zL); (· assumption)) | fail)
  conv => whnf
  exact h _ leA hgA
theorem caught_panic {c : Nat} {e0 e : Int} {H : AHeap} {K : AEnd → FrameMode → AHeap → Prop} (hc : c < H.size) (hg : H.get c = some (.cells [iv e0] true 0))
    (h : ∀ H', (H.set c (.cells [iv e] true 0)).le H' → H'.get c = some (.cells [iv e] true 0) → K (.returned (.tuple #[])) (.panicking [{ v := .iface 89 (.agg #[iv e]), recovered := true }]) H') :
    defS P 41 [.pointer (some ⟨c, 0, none⟩)] (.panicking [{ v := .iface 89 (.agg #[iv e]), recovered := false }]) H K := by
  refine defS_walk tt_ok Try.func41 rfl (by kernel_rfl) ?_
  conv => whnf
  repeat' ((conv => whnf); first | ((first | (apply vB; (case h => assumption)) | (apply vA; (case h => assumption)) | (apply vC; (case h => assumption))); (case hk => exact kpA); (case he => omega)) | ((first | (apply vI; (case h => assumption)) | (apply vG; (case h => assumption)) | (apply vK; (case h => assumption))); (case hk => exact kpA); (case he => omega); (case hp => omega); (case' g => intro hr_ hc_)) | ((first | (apply vJ; (case h => assumption)) | (apply vH; (case h => assumption)) | (apply vL; (case h => assumption))); (case hk => exact kpA); (case he => omega); (case' g => intro hr_ hc_)) | (apply drawS_auto mixed tt_ok; (· kernel_rfl)) | apply zZ | apply yA | apply yB | ((first | apply zA | apply zC | apply zE | apply zG); (· assumption)) | ((first | apply zB | apply zD | apply zF | apply zH); (· assumption)) | apply zM | apply zN | apply zO | apply zP | apply zQ | apply zR | apply zS | apply zT | apply zU | (apply zV; (· omega)) | (apply zW; (· omega)) | (apply zX; (· (first | omega | (dsimp only; omega)))) | (apply zY; (try (apply zY; apply zX; (· omega))); apply zX; (· omega); apply zX; (· (first | omega | (dsimp only; omega)))) | ((first | apply yJ | apply yK | apply yL | apply yM | apply yN | apply yO); (· exact hgA); (· exact hsA)) | (apply yNP; (· exact hgA); (· exact hsA)) | ((first | apply zA | apply zC | apply zE | apply zG); (· omega)) | ((first | apply zB | apply zD | apply zF | apply zH); (· omega)) | ((first | apply zI | apply zK); (· assumption)) | ((first | apply zJ | apply zL); (· assumption)) | fail)
  conv => whnf
  refine h _ ⟨by simp, fun i (hi : i < H.size) => ?_⟩ hgA
  by_cases h2 : i = c
  · subst h2
    exact Eq.trans hgA (AHeap.set_same _ _ _).symm
  · exact Eq.trans hgA (AHeap.set_ne _ _ h2).symm

def dotN (m b : List (List Int)) (i f n : Nat) : Int := ((List.range n).map fun k => at2 m i k * at2 b k f).sum
def clipF (x : Int) : Int := max (0 - 8388607) (min 8388607 x)
def appE (m b : List (List Int)) : Int := if matB m = true ∧ blockB b = true then if framesB m = b.length then 0 else 11 else 1
def appF (m b : List (List Int)) (i f : Nat) : Int := clipF (rnd (dotN m b i f b.length) 65536)
def appM (m b : List (List Int)) : List (List Int) := if appE m b = 0 then matF (appF m b) m.length (framesB b) else []
def pm (m b : List (List Int)) (w i k i' f : Nat) : Int := if i' < i then dotN m b i' f w else if i' = i then dotN m b i' f k else 0
end Go.Abs
