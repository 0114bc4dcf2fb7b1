/- Turned bytes: laws, and contracts of both Turns. -/
import Derived.Test.YthjmijjppaebgaaR04
import Derived.Test.YthjmijjppaebgaaH04
import Derived.Test.YthjmijjppaebgaaO04
set_option linter.all false
set_option maxHeartbeats 2000000
set_option maxRecDepth 20000
namespace Go.Abs
open Go Go.Proofs

theorem must_t {e : Int} {H : AHeap} {K : CK} (h : K (.returned (.tuple #[])) H) : callS P (fnV 72) [.bool true, iv e] H K := by
  refine callS_walk tt_ok Try.func72 rfl (by kernel_rfl) ?_
  conv => whnf
  repeat' ((conv => whnf); first | apply yA | apply yB | ((first | apply zA | apply zC | apply zE | apply zG); (· with_reducible assumption)) | ((first | apply zB | apply zD | apply zF | apply zH); (· with_reducible assumption)) | apply zM | apply zN | apply zO | apply zP | apply zQ | apply zR | apply zS | apply zT | apply zU | (apply zV; (· omega)) | (apply zW; (· omega)) | (apply zX; (· (first | omega | (dsimp only; omega)))) | (apply zY; (try (apply zY; apply zX; (· omega))); apply zX; (· omega); apply zX; (· (first | omega | (dsimp only; omega)))) | ((first | apply zA | apply zC | apply zE | apply zG); (· omega)) | ((first | apply zB | apply zD | apply zF | apply zH); (· omega)) | ((first | apply zI | apply zK); (· with_reducible assumption)) | ((first | apply zJ | apply zL); (· with_reducible assumption)) | fail)
  conv => whnf
  exact h
theorem must_f {e : Int} {H : AHeap} {K : CK} (h : K (.panicked [{ v := .iface 110 (.agg #[iv e]), recovered := false }]) H) : callS P (fnV 72) [.bool false, iv e] H K := by
  refine callS_walk tt_ok Try.func72 rfl (by kernel_rfl) ?_
  conv => whnf
  repeat' ((conv => whnf); first | apply yA | apply yB | ((first | apply zA | apply zC | apply zE | apply zG); (· with_reducible assumption)) | ((first | apply zB | apply zD | apply zF | apply zH); (· with_reducible assumption)) | apply zM | apply zN | apply zO | apply zP | apply zQ | apply zR | apply zS | apply zT | apply zU | (apply zV; (· omega)) | (apply zW; (· omega)) | (apply zX; (· (first | omega | (dsimp only; omega)))) | (apply zY; (try (apply zY; apply zX; (· omega))); apply zX; (· omega); apply zX; (· (first | omega | (dsimp only; omega)))) | ((first | apply zA | apply zC | apply zE | apply zG); (· omega)) | ((first | apply zB | apply zD | apply zF | apply zH); (· omega)) | ((first | apply zI | apply zK); (· with_reducible assumption)) | ((first | apply zJ | apply zL); (· with_reducible assumption)) | fail)
  conv => whnf
  exact h
theorem must_ok {b : Bool} {e : Int} {H : AHeap} {K : CK} (hb : b = true) (h : K (.returned (.tuple #[])) H) : callS P (fnV 72) [.bool b, iv e] H K := by subst hb; exact must_t h
theorem must_no {b : Bool} {e : Int} {H : AHeap} {K : CK} (hb : b = false) (h : K (.panicked [{ v := .iface 110 (.agg #[iv e]), recovered := false }]) H) : callS P (fnV 72) [.bool b, iv e] H K := by subst hb; exact must_f h
theorem caught_ret {c : Nat} {e0 : Int} {H : AHeap} {K : AEnd → FrameMode → AHeap → Prop} (hc : c < H.size) (hg : H.get c = some (.cells [iv e0] true 0))
    (h : ∀ H', H.le H' → H'.get c = some (.cells [iv e0] true 0) → K (.returned (.tuple #[])) .returning H') : defS P 71 [.pointer (some ⟨c, 0, none⟩)] .returning H K := by
  refine defS_walk tt_ok Try.func71 rfl (by kernel_rfl) ?_
  conv => whnf
  repeat' ((conv => whnf); first | ((first | (apply vB; (case h => with_reducible assumption)) | (apply vA; (case h => with_reducible assumption)) | (apply vC; (case h => with_reducible assumption))); (case hk => exact kpA); (case he => omega)) | ((first | (apply vI; (case h => with_reducible assumption)) | (apply vG; (case h => with_reducible assumption)) | (apply vK; (case h => with_reducible assumption))); (case hk => exact kpA); (case he => omega); (case hp => omega); (case' g => intro hr_ hc_)) | ((first | (apply vJ; (case h => with_reducible assumption)) | (apply vH; (case h => with_reducible assumption)) | (apply vL; (case h => with_reducible assumption))); (case hk => exact kpA); (case he => omega); (case' g => intro hr_ hc_)) | (apply drawS_auto mixed tt_ok; (· kernel_rfl)) | apply zZ | apply yA | apply yB | ((first | apply zA | apply zC | apply zE | apply zG); (· with_reducible assumption)) | ((first | apply zB | apply zD | apply zF | apply zH); (· with_reducible assumption)) | apply zM | apply zN | apply zO | apply zP | apply zQ | apply zR | apply zS | apply zT | apply zU | (apply zV; (· omega)) | (apply zW; (· omega)) | (apply zX; (· (first | omega | (dsimp only; omega)))) | (apply zY; (try (apply zY; apply zX; (· omega))); apply zX; (· omega); apply zX; (· (first | omega | (dsimp only; omega)))) | ((first | apply yJ | apply yK | apply yL | apply yM | apply yN | apply yO); (· exact hgA); (· exact hsA)) | (apply yNP; (· exact hgA); (· exact hsA)) | ((first | apply zA | apply zC | apply zE | apply zG); (· omega)) | ((first | apply zB | apply zD | apply zF | apply zH); (· omega)) | ((first | apply zI | apply zK); (· with_reducible assumption)) | ((first | apply zJ | apply zL); (· with_reducible assumption)) | fail)
  conv => whnf
  exact h _ leA hgA
theorem caught_panic {c : Nat} {e0 e : Int} {H : AHeap} {K : AEnd → FrameMode → AHeap → Prop} (hc : c < H.size) (hg : H.get c = some (.cells [iv e0] true 0))
    (h : ∀ H', (H.set c (.cells [iv e] true 0)).le H' → H'.get c = some (.cells [iv e] true 0) → K (.returned (.tuple #[])) (.panicking [{ v := .iface 110 (.agg #[iv e]), recovered := true }]) H') :
    defS P 71 [.pointer (some ⟨c, 0, none⟩)] (.panicking [{ v := .iface 110 (.agg #[iv e]), recovered := false }]) H K := by
  refine defS_walk tt_ok Try.func71 rfl (by kernel_rfl) ?_
  conv => whnf
  repeat' ((conv => whnf); first | ((first | (apply vB; (case h => with_reducible assumption)) | (apply vA; (case h => with_reducible assumption)) | (apply vC; (case h => with_reducible assumption))); (case hk => exact kpA); (case he => omega)) | ((first | (apply vI; (case h => with_reducible assumption)) | (apply vG; (case h => with_reducible assumption)) | (apply vK; (case h => with_reducible assumption))); (case hk => exact kpA); (case he => omega); (case hp => omega); (case' g => intro hr_ hc_)) | ((first | (apply vJ; (case h => with_reducible assumption)) | (apply vH; (case h => with_reducible assumption)) | (apply vL; (case h => with_reducible assumption))); (case hk => exact kpA); (case he => omega); (case' g => intro hr_ hc_)) | (apply drawS_auto mixed tt_ok; (· kernel_rfl)) | apply zZ | apply yA | apply yB | ((first | apply zA | apply zC | apply zE | apply zG); (· with_reducible assumption)) | ((first | apply zB | apply zD | apply zF | apply zH); (· with_reducible assumption)) | apply zM | apply zN | apply zO | apply zP | apply zQ | apply zR | apply zS | apply zT | apply zU | (apply zV; (· omega)) | (apply zW; (· omega)) | (apply zX; (· (first | omega | (dsimp only; omega)))) | (apply zY; (try (apply zY; apply zX; (· omega))); apply zX; (· omega); apply zX; (· (first | omega | (dsimp only; omega)))) | ((first | apply yJ | apply yK | apply yL | apply yM | apply yN | apply yO); (· exact hgA); (· exact hsA)) | (apply yNP; (· exact hgA); (· exact hsA)) | ((first | apply zA | apply zC | apply zE | apply zG); (· omega)) | ((first | apply zB | apply zD | apply zF | apply zH); (· omega)) | ((first | apply zI | apply zK); (· with_reducible assumption)) | ((first | apply zJ | apply zL); (· with_reducible assumption)) | fail)
  conv => whnf
  refine h _ ⟨by simp, fun i (hi : i < H.size) => ?_⟩ hgA
  by_cases h2 : i = c
  · subst h2
    exact Eq.trans hgA (AHeap.set_same _ _ _).symm
  · exact Eq.trans hgA (AHeap.set_ne _ _ h2).symm

def byL (s : ByteArray) : List Int := s.data.toList.map fun b => (b.toNat : Int)
def turnL (n C N : Nat) (pl : Bool) (s : ByteArray) (k : Nat) : List Int := ((List.range k).map fun i => bytesAt s (n * idx (!pl) C N (pc C N pl i) (pf C N pl i)) n false).flatten
def turnS (e C : Int) (pl : Bool) (s : ByteArray) : ByteArray := if decE e C s = 0 then bstr (turnL (nB e) C.toNat (decN e C.toNat s) pl s (C.toNat * decN e C.toNat s)) else .empty
attribute [local irreducible] sampF rawD levD levAt nB decN idx pc pf maxF decE leV bytesAt
end Go.Abs
/- Laws: bytes that are read and written again. -/
set_option maxHeartbeats 1000000
set_option maxRecDepth 20000
namespace Go.Abs
open Go Go.Proofs

end Go.Abs
/- Laws: a block that is cut in two. -/
set_option maxHeartbeats 1000000
set_option maxRecDepth 20000
namespace Go.Abs
open Go Go.Proofs

theorem partF_c {a : Option Addr} {c L f t : Nat} {m : List (List Int)} {H : AHeap} {K : CK} (hx : Mat H a m) (hL : ∀ r ∈ m, r.length = L ∧ ∀ x ∈ r, -8388607 ≤ x ∧ x ≤ 8388607) (hn : 1 ≤ m.length ∧ m.length ≤ 1000000 ∧ L ≤ 1000000) (hft : f ≤ t ∧ t ≤ L)
    (h : ∀ H' p, H.le H' → Mat H' p (cutM f t m) → K (.returned (.slice p m.length m.length)) H') : callS P (fnV 27) [.slice a m.length c, iv f, iv t] H K := by
  refine callS_post ?_
  refine partG_c hx (fun r hr => (hL r hr).1) hn hft (fun H' o rs hle hom => ⟨_, HW.fz _ H.size, h _ _ (AHeap.le.fz hle (Nat.le_refl _)) (hom.fz (Nat.le_refl _) (by rw [cutM_len]; unfold maxN; omega) fun r hr => ?_)⟩)
  obtain ⟨q, hq, rfl⟩ := List.mem_map.1 hr
  refine ⟨by rw [cutR_len (by have := (hL q hq).1; omega)]; unfold maxN; omega, fun x hx => ?_⟩
  unfold cutR at hx
  have := (hL q hq).2 x (List.mem_of_mem_drop (List.mem_of_mem_take hx))
  unfold inR; omega
end Go.Abs
