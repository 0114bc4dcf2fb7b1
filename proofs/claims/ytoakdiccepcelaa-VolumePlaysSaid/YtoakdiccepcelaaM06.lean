/- Contracts of functions that many packages share, continued: how large blocks are, matrices made, rows copied. No conditions beyond those stated. -/
import Derived.Test.YtoakdiccepcelaaD06
import Derived.Test.YtoakdiccepcelaaAbsMat
set_option linter.all false
set_option maxHeartbeats 400000
set_option maxRecDepth 20000
namespace Go.Abs
open Go Go.Proofs

theorem refValid_v {a : Option Addr} {c : Nat} {b : List (List Int)} {v : Bool} {H : AHeap} {K : CK} (h1 : Mat H a b) (hv : blockB b = v) (h : K (.returned (.bool v)) H) : callS P (fnV 29) [.slice a b.length c] H K := refValid_c h1 (by rw [hv]; exact h)
theorem layValid_v {a : Option Addr} {c : Nat} {b : List (List Int)} {v : Bool} {H : AHeap} {K : CK} (h1 : Mat H a b) (hv : blockB b = v) (h : K (.returned (.bool v)) H) : callS P (fnV 46) [.slice a b.length c] H K := layValid_c h1 (by rw [hv]; exact h)
theorem light_v {a : Option Addr} {c : Nat} {b : List (List Int)} {v : Bool} {H : AHeap} {K : CK} (h1 : Mat H a b) (hv : lightB b = v) (h : K (.returned (.bool v)) H) : callS P (fnV 7) [.slice a b.length c] H K := light_c h1 (by rw [hv]; exact h)
abbrev Bls (H : AHeap) (a : Option Addr) (l : List (List (List Int))) : Prop := Sl (RSl RRow 1) 1 H a l
theorem Bls.kp {H H' : AHeap} {a : Option Addr} {l : List (List (List Int))} (h : Bls H a l) (k : Kp H H') : Bls H' a l := Sl.kp (rSl_mono (rSl_mono rInt_mono)) h k
def framesB (b : List (List Int)) : Nat := (b.headD []).length
theorem frames_c {a : Option Addr} {c : Nat} {b : List (List Int)} {H : AHeap} {K : CK} (h1 : Mat H a b) (h : K (.returned (iv (framesB b))) H) :
    callS P (fnV 23) [.slice a b.length c] H K := by
  have hl1 := h1.len
  refine callS_walk tt_ok Try.func23 rfl (by kernel_rfl) ?_
  conv => whnf
  by_cases h0 : 0 < b.length
  · obtain ⟨i, o, rfl⟩ := h1.at h0
    rw [framesB, headD_eq h0] at h
    repeat' ((conv => whnf); first | ((first | (apply vB; (case h => assumption)) | (apply vA; (case h => assumption)) | (apply vC; (case h => assumption))); (case hk => exact kpA); (case he => omega)) | ((first | (apply vI; (case h => assumption)) | (apply vG; (case h => assumption)) | (apply vK; (case h => assumption))); (case hk => exact kpA); (case he => omega); (case hp => omega); (case' g => intro hr_ hc_)) | ((first | (apply vJ; (case h => assumption)) | (apply vH; (case h => assumption)) | (apply vL; (case h => assumption))); (case hk => exact kpA); (case he => omega); (case' g => intro hr_ hc_)) | apply yA | apply yB | ((first | apply zA | apply zC | apply zE | apply zG); (· assumption)) | ((first | apply zB | apply zD | apply zF | apply zH); (· assumption)) | apply zM | apply zN | apply zO | apply zP | apply zQ | apply zR | apply zS | apply zT | apply zU | (apply zV; (· omega)) | (apply zW; (· omega)) | (apply zX; (· (first | omega | (dsimp only; omega)))) | (apply zY; (try (apply zY; apply zX; (· omega))); apply zX; (· omega); apply zX; (· (first | omega | (dsimp only; omega)))) | ((first | apply yJ | apply yK | apply yL | apply yM | apply yN | apply yO); (· exact hgA); (· exact hsA)) | ((first | apply zA | apply zC | apply zE | apply zG); (· omega)) | ((first | apply zB | apply zD | apply zF | apply zH); (· omega)) | ((first | apply zI | apply zK); (· assumption)) | ((first | apply zJ | apply zL); (· assumption)) | fail)
    conv => whnf
    exact h
  · have e : b = [] := List.eq_nil_of_length_eq_zero (by omega)
    subst e
    repeat' ((conv => whnf); first | ((first | (apply vB; (case h => assumption)) | (apply vA; (case h => assumption)) | (apply vC; (case h => assumption))); (case hk => exact kpA); (case he => omega)) | ((first | (apply vI; (case h => assumption)) | (apply vG; (case h => assumption)) | (apply vK; (case h => assumption))); (case hk => exact kpA); (case he => omega); (case hp => omega); (case' g => intro hr_ hc_)) | ((first | (apply vJ; (case h => assumption)) | (apply vH; (case h => assumption)) | (apply vL; (case h => assumption))); (case hk => exact kpA); (case he => omega); (case' g => intro hr_ hc_)) | apply yA | apply yB | ((first | apply zA | apply zC | apply zE | apply zG); (· assumption)) | ((first | apply zB | apply zD | apply zF | apply zH); (· assumption)) | apply zM | apply zN | apply zO | apply zP | apply zQ | apply zR | apply zS | apply zT | apply zU | (apply zV; (· omega)) | (apply zW; (· omega)) | (apply zX; (· (first | omega | (dsimp only; omega)))) | (apply zY; (try (apply zY; apply zX; (· omega))); apply zX; (· omega); apply zX; (· (first | omega | (dsimp only; omega)))) | ((first | apply yJ | apply yK | apply yL | apply yM | apply yN | apply yO); (· exact hgA); (· exact hsA)) | ((first | apply zA | apply zC | apply zE | apply zG); (· omega)) | ((first | apply zB | apply zD | apply zF | apply zH); (· omega)) | ((first | apply zI | apply zK); (· assumption)) | ((first | apply zJ | apply zL); (· assumption)) | fail)
    conv => whnf
    exact h
theorem lightB_len {b : List (List Int)} (h : lightB b = true) : b.length ≤ 12 ∧ ∀ r ∈ b, r.length ≤ 300 := by
  unfold lightB at h
  simp only [Bool.and_eq_true, decide_eq_true_eq] at h
  exact ⟨h.1, fun r hr => by simpa using List.all_eq_true.1 h.2 r hr⟩
theorem nothingF_c {n m : Nat} (hn : 1 ≤ n ∧ n ≤ 1000000 ∧ m ≤ 1000000) {H : AHeap} {K : CK}
    (h : ∀ H' o rs, H.le H' → OMat H' H.size o rs (matF (fun _ _ => 0) n m) [] → K (.returned (.slice (some ⟨o, 0, none⟩) n n)) H') : callS P (fnV 51) [iv n, iv m] H K :=
  nothing_c hn (by rw [← matF_zero]; exact h)
end Go.Abs
