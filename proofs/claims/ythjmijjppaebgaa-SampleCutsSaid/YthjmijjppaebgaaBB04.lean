/- Contracts of both Cuts. -/
import Derived.Test.YthjmijjppaebgaaAA04
set_option linter.all false
set_option maxHeartbeats 1000000
set_option maxRecDepth 20000
namespace Go.Abs
open Go Go.Proofs

def cutE (b : List (List Int)) (fr to : Int) : Int := if blockB b = true then if 0 ≤ fr ∧ fr ≤ to ∧ to ≤ framesB b then 0 else 7 else 1
theorem cutE_zero {b : List (List Int)} {fr to : Int} (h : cutE b fr to = 0) : blockB b = true ∧ ∃ f t : Nat, fr = f ∧ to = t ∧ f ≤ t ∧ t ≤ framesB b := by
  unfold cutE at h
  cases hv : blockB b with
  | false => rw [hv] at h; simp at h
  | true =>
    rw [if_pos hv] at h
    by_cases hh : 0 ≤ fr ∧ fr ≤ to ∧ to ≤ framesB b
    · obtain ⟨f, rfl⟩ := Int.eq_ofNat_of_zero_le hh.1
      obtain ⟨t, rfl⟩ := Int.eq_ofNat_of_zero_le (by omega : 0 ≤ to)
      exact ⟨rfl, f, t, rfl, rfl, by omega, by omega⟩
    · rw [if_neg hh] at h; omega
theorem cut_rows {b : List (List Int)} (hv : blockB b = true) : (1 ≤ b.length ∧ b.length ≤ 8) ∧ framesB b ≤ 4096 ∧ ∀ r ∈ b, r.length = framesB b ∧ ∀ x ∈ r, -8388607 ≤ x ∧ x ≤ 8388607 := by
  obtain ⟨hC, hR⟩ := blockB_rows hv
  exact ⟨hC, by rw [frames0 (by omega)]; exact (hR _ (List.getElem_mem _)).2.1, fun r hr => ⟨(hR r hr).1, (hR r hr).2.2⟩⟩
theorem refCut_ok {a : Option Addr} {c f t : Nat} {b : List (List Int)} {H : AHeap} {K : CK} (hx : Mat H a b) (hv : blockB b = true) (hft : f ≤ t ∧ t ≤ framesB b)
    (h : ∀ H' p, H.le H' → Mat H' p (cutM f t b) → K (.returned (.tuple #[.slice p b.length b.length, iv 0])) H') : callS P (fnV 34) [.slice a b.length c, iv f, iv t] H K := by
  obtain ⟨hC, hN, hR⟩ := cut_rows hv
  have hfr := frames0 (m := b) (by omega)
  have hft2 : f ≤ t ∧ t ≤ b[0].length := by omega
  obtain ⟨i0, off, rfl⟩ := hx.at (k := 0) (by omega)
  refine callS_walk tt_ok Try.func34 rfl (by kernel_rfl) ?_
  conv => whnf
  repeat' ((conv => whnf); first | (apply refValid_v; (· exact mtA); (· with_reducible assumption)) | (refine partF_c (f := f) (t := t) hx hR ?_ hft (fun H1 p1 hle1 hx1 => ?_); (· omega)) | ((first | (apply vB; (case h => with_reducible assumption)) | (apply vA; (case h => with_reducible assumption)) | (apply vC; (case h => with_reducible assumption))); (case hk => exact kpA); (case he => omega)) | ((first | (apply vI; (case h => with_reducible assumption)) | (apply vG; (case h => with_reducible assumption)) | (apply vK; (case h => with_reducible assumption))); (case hk => exact kpA); (case he => omega); (case hp => omega); (case' g => intro hr_ hc_)) | ((first | (apply vJ; (case h => with_reducible assumption)) | (apply vH; (case h => with_reducible assumption)) | (apply vL; (case h => with_reducible assumption))); (case hk => exact kpA); (case he => omega); (case' g => intro hr_ hc_)) | (apply drawS_auto mixed tt_ok; (· kernel_rfl)) | apply zZ | apply yA | apply yB | ((first | apply zA | apply zC | apply zE | apply zG); (· with_reducible assumption)) | ((first | apply zB | apply zD | apply zF | apply zH); (· with_reducible assumption)) | apply zM | apply zN | apply zO | apply zP | apply zQ | apply zR | apply zS | apply zT | apply zU | (apply zV; (· omega)) | (apply zW; (· omega)) | (apply zX; (· (first | omega | (dsimp only; omega)))) | (apply zY; (try (apply zY; apply zX; (· omega))); apply zX; (· omega); apply zX; (· (first | omega | (dsimp only; omega)))) | ((first | apply yJ | apply yK | apply yL | apply yM | apply yN | apply yO); (· exact hgA); (· exact hsA)) | (apply yNP; (· exact hgA); (· exact hsA)) | ((first | apply zA | apply zC | apply zE | apply zG); (· omega)) | ((first | apply zB | apply zD | apply zF | apply zH); (· omega)) | ((first | apply zI | apply zK); (· with_reducible assumption)) | ((first | apply zJ | apply zL); (· with_reducible assumption)) | fail)
  conv => whnf
  exact h _ _ hle1 hx1
theorem refCut_bad {a : Option Addr} {c : Nat} {fr to : Int} {b : List (List Int)} {H : AHeap} {K : CK} (hx : Mat H a b) (h0 : cutE b fr to ≠ 0)
    (h : K (.returned (.tuple #[.slice none 0 0, iv (cutE b fr to)])) H) : callS P (fnV 34) [.slice a b.length c, iv fr, iv to] H K := by
  cases hv : blockB b with
  | false =>
    have hE : cutE b fr to = 1 := by unfold cutE; rw [hv]; rfl
    rw [hE] at h
    refine callS_walk tt_ok Try.func34 rfl (by kernel_rfl) ?_
    conv => whnf
    repeat' ((conv => whnf); first | (apply refValid_v; (· exact mtA); (· with_reducible assumption)) | ((first | (apply vB; (case h => with_reducible assumption)) | (apply vA; (case h => with_reducible assumption)) | (apply vC; (case h => with_reducible assumption))); (case hk => exact kpA); (case he => omega)) | ((first | (apply vI; (case h => with_reducible assumption)) | (apply vG; (case h => with_reducible assumption)) | (apply vK; (case h => with_reducible assumption))); (case hk => exact kpA); (case he => omega); (case hp => omega); (case' g => intro hr_ hc_)) | ((first | (apply vJ; (case h => with_reducible assumption)) | (apply vH; (case h => with_reducible assumption)) | (apply vL; (case h => with_reducible assumption))); (case hk => exact kpA); (case he => omega); (case' g => intro hr_ hc_)) | (apply drawS_auto mixed tt_ok; (· kernel_rfl)) | apply zZ | apply yA | apply yB | ((first | apply zA | apply zC | apply zE | apply zG); (· with_reducible assumption)) | ((first | apply zB | apply zD | apply zF | apply zH); (· with_reducible assumption)) | apply zM | apply zN | apply zO | apply zP | apply zQ | apply zR | apply zS | apply zT | apply zU | (apply zV; (· omega)) | (apply zW; (· omega)) | (apply zX; (· (first | omega | (dsimp only; omega)))) | (apply zY; (try (apply zY; apply zX; (· omega))); apply zX; (· omega); apply zX; (· (first | omega | (dsimp only; omega)))) | ((first | apply yJ | apply yK | apply yL | apply yM | apply yN | apply yO); (· exact hgA); (· exact hsA)) | (apply yNP; (· exact hgA); (· exact hsA)) | ((first | apply zA | apply zC | apply zE | apply zG); (· omega)) | ((first | apply zB | apply zD | apply zF | apply zH); (· omega)) | ((first | apply zI | apply zK); (· with_reducible assumption)) | ((first | apply zJ | apply zL); (· with_reducible assumption)) | fail)
    conv => whnf
    exact h
  | true =>
    have hE : cutE b fr to = if 0 ≤ fr ∧ fr ≤ to ∧ to ≤ framesB b then 0 else 7 := by unfold cutE; rw [if_pos hv]
    have hh : ¬(0 ≤ fr ∧ fr ≤ to ∧ to ≤ framesB b) := fun hh => by rw [hE, if_pos hh] at h0; exact h0 rfl
    rw [hE, if_neg hh] at h
    obtain ⟨hC, hN, hR⟩ := cut_rows hv
    have hfr := frames0 (m := b) (by omega)
    obtain ⟨i0, off, rfl⟩ := hx.at (k := 0) (by omega)
    by_cases h1 : fr < 0
    · skip
      refine callS_walk tt_ok Try.func34 rfl (by kernel_rfl) ?_
      conv => whnf
      repeat' ((conv => whnf); first | (apply refValid_v; (· exact mtA); (· with_reducible assumption)) | ((first | (apply vB; (case h => with_reducible assumption)) | (apply vA; (case h => with_reducible assumption)) | (apply vC; (case h => with_reducible assumption))); (case hk => exact kpA); (case he => omega)) | ((first | (apply vI; (case h => with_reducible assumption)) | (apply vG; (case h => with_reducible assumption)) | (apply vK; (case h => with_reducible assumption))); (case hk => exact kpA); (case he => omega); (case hp => omega); (case' g => intro hr_ hc_)) | ((first | (apply vJ; (case h => with_reducible assumption)) | (apply vH; (case h => with_reducible assumption)) | (apply vL; (case h => with_reducible assumption))); (case hk => exact kpA); (case he => omega); (case' g => intro hr_ hc_)) | (apply drawS_auto mixed tt_ok; (· kernel_rfl)) | apply zZ | apply yA | apply yB | ((first | apply zA | apply zC | apply zE | apply zG); (· with_reducible assumption)) | ((first | apply zB | apply zD | apply zF | apply zH); (· with_reducible assumption)) | apply zM | apply zN | apply zO | apply zP | apply zQ | apply zR | apply zS | apply zT | apply zU | (apply zV; (· omega)) | (apply zW; (· omega)) | (apply zX; (· (first | omega | (dsimp only; omega)))) | (apply zY; (try (apply zY; apply zX; (· omega))); apply zX; (· omega); apply zX; (· (first | omega | (dsimp only; omega)))) | ((first | apply yJ | apply yK | apply yL | apply yM | apply yN | apply yO); (· exact hgA); (· exact hsA)) | (apply yNP; (· exact hgA); (· exact hsA)) | ((first | apply zA | apply zC | apply zE | apply zG); (· omega)) | ((first | apply zB | apply zD | apply zF | apply zH); (· omega)) | ((first | apply zI | apply zK); (· with_reducible assumption)) | ((first | apply zJ | apply zL); (· with_reducible assumption)) | fail)
      conv => whnf
      exact h
    · by_cases h2 : to < fr
      · skip
        refine callS_walk tt_ok Try.func34 rfl (by kernel_rfl) ?_
        conv => whnf
        repeat' ((conv => whnf); first | (apply refValid_v; (· exact mtA); (· with_reducible assumption)) | ((first | (apply vB; (case h => with_reducible assumption)) | (apply vA; (case h => with_reducible assumption)) | (apply vC; (case h => with_reducible assumption))); (case hk => exact kpA); (case he => omega)) | ((first | (apply vI; (case h => with_reducible assumption)) | (apply vG; (case h => with_reducible assumption)) | (apply vK; (case h => with_reducible assumption))); (case hk => exact kpA); (case he => omega); (case hp => omega); (case' g => intro hr_ hc_)) | ((first | (apply vJ; (case h => with_reducible assumption)) | (apply vH; (case h => with_reducible assumption)) | (apply vL; (case h => with_reducible assumption))); (case hk => exact kpA); (case he => omega); (case' g => intro hr_ hc_)) | (apply drawS_auto mixed tt_ok; (· kernel_rfl)) | apply zZ | apply yA | apply yB | ((first | apply zA | apply zC | apply zE | apply zG); (· with_reducible assumption)) | ((first | apply zB | apply zD | apply zF | apply zH); (· with_reducible assumption)) | apply zM | apply zN | apply zO | apply zP | apply zQ | apply zR | apply zS | apply zT | apply zU | (apply zV; (· omega)) | (apply zW; (· omega)) | (apply zX; (· (first | omega | (dsimp only; omega)))) | (apply zY; (try (apply zY; apply zX; (· omega))); apply zX; (· omega); apply zX; (· (first | omega | (dsimp only; omega)))) | ((first | apply yJ | apply yK | apply yL | apply yM | apply yN | apply yO); (· exact hgA); (· exact hsA)) | (apply yNP; (· exact hgA); (· exact hsA)) | ((first | apply zA | apply zC | apply zE | apply zG); (· omega)) | ((first | apply zB | apply zD | apply zF | apply zH); (· omega)) | ((first | apply zI | apply zK); (· with_reducible assumption)) | ((first | apply zJ | apply zL); (· with_reducible assumption)) | fail)
        conv => whnf
        exact h
      · have h3 : (b[0].length : Int) < to := by omega
        refine callS_walk tt_ok Try.func34 rfl (by kernel_rfl) ?_
        conv => whnf
        repeat' ((conv => whnf); first | (apply refValid_v; (· exact mtA); (· with_reducible assumption)) | ((first | (apply vB; (case h => with_reducible assumption)) | (apply vA; (case h => with_reducible assumption)) | (apply vC; (case h => with_reducible assumption))); (case hk => exact kpA); (case he => omega)) | ((first | (apply vI; (case h => with_reducible assumption)) | (apply vG; (case h => with_reducible assumption)) | (apply vK; (case h => with_reducible assumption))); (case hk => exact kpA); (case he => omega); (case hp => omega); (case' g => intro hr_ hc_)) | ((first | (apply vJ; (case h => with_reducible assumption)) | (apply vH; (case h => with_reducible assumption)) | (apply vL; (case h => with_reducible assumption))); (case hk => exact kpA); (case he => omega); (case' g => intro hr_ hc_)) | (apply drawS_auto mixed tt_ok; (· kernel_rfl)) | apply zZ | apply yA | apply yB | ((first | apply zA | apply zC | apply zE | apply zG); (· with_reducible assumption)) | ((first | apply zB | apply zD | apply zF | apply zH); (· with_reducible assumption)) | apply zM | apply zN | apply zO | apply zP | apply zQ | apply zR | apply zS | apply zT | apply zU | (apply zV; (· omega)) | (apply zW; (· omega)) | (apply zX; (· (first | omega | (dsimp only; omega)))) | (apply zY; (try (apply zY; apply zX; (· omega))); apply zX; (· omega); apply zX; (· (first | omega | (dsimp only; omega)))) | ((first | apply yJ | apply yK | apply yL | apply yM | apply yN | apply yO); (· exact hgA); (· exact hsA)) | (apply yNP; (· exact hgA); (· exact hsA)) | ((first | apply zA | apply zC | apply zE | apply zG); (· omega)) | ((first | apply zB | apply zD | apply zF | apply zH); (· omega)) | ((first | apply zI | apply zK); (· with_reducible assumption)) | ((first | apply zJ | apply zL); (· with_reducible assumption)) | fail)
        conv => whnf
        exact h
theorem cut_bad {a : Option Addr} {c : Nat} {fr to : Int} {b : List (List Int)} {H : AHeap} {K : CK} (hx : Mat H a b) (h0 : cutE b fr to ≠ 0)
    (h : ∀ H', H.le H' → K (.returned (.tuple #[.slice none 0 0, iv (cutE b fr to)])) H') : callS P (fnV 33) [.slice a b.length c, iv fr, iv to] H K := by
  cases hv : blockB b with
  | false =>
    have hE : cutE b fr to = 1 := by unfold cutE; rw [hv]; rfl
    rw [hE] at h
    refine callS_walk tt_ok Try.func33 rfl (by kernel_rfl) ?_
    conv => whnf
    repeat' ((conv => whnf); first | (apply layValid_v; (· exact mtA); (· with_reducible assumption)) | (apply must_no; (· (first | rfl | assumption | exact decide_eq_false (by omega)))) | (apply caught_panic; (· exact hoA); (· exact hgA); intro H2 hle2 hg2) | ((first | (apply vB; (case h => with_reducible assumption)) | (apply vA; (case h => with_reducible assumption)) | (apply vC; (case h => with_reducible assumption))); (case hk => exact kpA); (case he => omega)) | ((first | (apply vI; (case h => with_reducible assumption)) | (apply vG; (case h => with_reducible assumption)) | (apply vK; (case h => with_reducible assumption))); (case hk => exact kpA); (case he => omega); (case hp => omega); (case' g => intro hr_ hc_)) | ((first | (apply vJ; (case h => with_reducible assumption)) | (apply vH; (case h => with_reducible assumption)) | (apply vL; (case h => with_reducible assumption))); (case hk => exact kpA); (case he => omega); (case' g => intro hr_ hc_)) | (apply drawS_auto mixed tt_ok; (· kernel_rfl)) | apply zZ | apply yA | apply yB | ((first | apply zA | apply zC | apply zE | apply zG); (· with_reducible assumption)) | ((first | apply zB | apply zD | apply zF | apply zH); (· with_reducible assumption)) | apply zM | apply zN | apply zO | apply zP | apply zQ | apply zR | apply zS | apply zT | apply zU | (apply zV; (· omega)) | (apply zW; (· omega)) | (apply zX; (· (first | omega | (dsimp only; omega)))) | (apply zY; (try (apply zY; apply zX; (· omega))); apply zX; (· omega); apply zX; (· (first | omega | (dsimp only; omega)))) | ((first | apply yJ | apply yK | apply yL | apply yM | apply yN | apply yO); (· exact hgA); (· exact hsA)) | (apply yNP; (· exact hgA); (· exact hsA)) | ((first | apply zA | apply zC | apply zE | apply zG); (· omega)) | ((first | apply zB | apply zD | apply zF | apply zH); (· omega)) | ((first | apply zI | apply zK); (· with_reducible assumption)) | ((first | apply zJ | apply zL); (· with_reducible assumption)) | fail)
    conv => whnf
    exact h _ (AHeap.le.trans leA hle2)
  | true =>
    have hE : cutE b fr to = if 0 ≤ fr ∧ fr ≤ to ∧ to ≤ framesB b then 0 else 7 := by unfold cutE; rw [if_pos hv]
    have hh : ¬(0 ≤ fr ∧ fr ≤ to ∧ to ≤ framesB b) := fun hh => by rw [hE, if_pos hh] at h0; exact h0 rfl
    rw [hE, if_neg hh] at h
    obtain ⟨hC, hN, hR⟩ := cut_rows hv
    have hfr := frames0 (m := b) (by omega)
    obtain ⟨i0, off, rfl⟩ := hx.at (k := 0) (by omega)
    by_cases h1 : fr < 0
    · skip
      refine callS_walk tt_ok Try.func33 rfl (by kernel_rfl) ?_
      conv => whnf
      repeat' ((conv => whnf); first | (apply layValid_v; (· exact mtA); (· with_reducible assumption)) | (apply must_ok; (· (first | rfl | assumption | exact decide_eq_true (by omega)))) | (apply must_no; (· (first | rfl | assumption | exact decide_eq_false (by omega)))) | (apply caught_panic; (· exact hoA); (· exact hgA); intro H2 hle2 hg2) | ((first | (apply vB; (case h => with_reducible assumption)) | (apply vA; (case h => with_reducible assumption)) | (apply vC; (case h => with_reducible assumption))); (case hk => exact kpA); (case he => omega)) | ((first | (apply vI; (case h => with_reducible assumption)) | (apply vG; (case h => with_reducible assumption)) | (apply vK; (case h => with_reducible assumption))); (case hk => exact kpA); (case he => omega); (case hp => omega); (case' g => intro hr_ hc_)) | ((first | (apply vJ; (case h => with_reducible assumption)) | (apply vH; (case h => with_reducible assumption)) | (apply vL; (case h => with_reducible assumption))); (case hk => exact kpA); (case he => omega); (case' g => intro hr_ hc_)) | (apply drawS_auto mixed tt_ok; (· kernel_rfl)) | apply zZ | apply yA | apply yB | ((first | apply zA | apply zC | apply zE | apply zG); (· with_reducible assumption)) | ((first | apply zB | apply zD | apply zF | apply zH); (· with_reducible assumption)) | apply zM | apply zN | apply zO | apply zP | apply zQ | apply zR | apply zS | apply zT | apply zU | (apply zV; (· omega)) | (apply zW; (· omega)) | (apply zX; (· (first | omega | (dsimp only; omega)))) | (apply zY; (try (apply zY; apply zX; (· omega))); apply zX; (· omega); apply zX; (· (first | omega | (dsimp only; omega)))) | ((first | apply yJ | apply yK | apply yL | apply yM | apply yN | apply yO); (· exact hgA); (· exact hsA)) | (apply yNP; (· exact hgA); (· exact hsA)) | ((first | apply zA | apply zC | apply zE | apply zG); (· omega)) | ((first | apply zB | apply zD | apply zF | apply zH); (· omega)) | ((first | apply zI | apply zK); (· with_reducible assumption)) | ((first | apply zJ | apply zL); (· with_reducible assumption)) | fail)
      conv => whnf
      exact h _ (AHeap.le.trans leA hle2)
    · by_cases h2 : to < fr
      · skip
        refine callS_walk tt_ok Try.func33 rfl (by kernel_rfl) ?_
        conv => whnf
        repeat' ((conv => whnf); first | (apply layValid_v; (· exact mtA); (· with_reducible assumption)) | (apply must_ok; (· (first | rfl | assumption | exact decide_eq_true (by omega)))) | (apply must_no; (· (first | rfl | assumption | exact decide_eq_false (by omega)))) | (apply caught_panic; (· exact hoA); (· exact hgA); intro H2 hle2 hg2) | ((first | (apply vB; (case h => with_reducible assumption)) | (apply vA; (case h => with_reducible assumption)) | (apply vC; (case h => with_reducible assumption))); (case hk => exact kpA); (case he => omega)) | ((first | (apply vI; (case h => with_reducible assumption)) | (apply vG; (case h => with_reducible assumption)) | (apply vK; (case h => with_reducible assumption))); (case hk => exact kpA); (case he => omega); (case hp => omega); (case' g => intro hr_ hc_)) | ((first | (apply vJ; (case h => with_reducible assumption)) | (apply vH; (case h => with_reducible assumption)) | (apply vL; (case h => with_reducible assumption))); (case hk => exact kpA); (case he => omega); (case' g => intro hr_ hc_)) | (apply drawS_auto mixed tt_ok; (· kernel_rfl)) | apply zZ | apply yA | apply yB | ((first | apply zA | apply zC | apply zE | apply zG); (· with_reducible assumption)) | ((first | apply zB | apply zD | apply zF | apply zH); (· with_reducible assumption)) | apply zM | apply zN | apply zO | apply zP | apply zQ | apply zR | apply zS | apply zT | apply zU | (apply zV; (· omega)) | (apply zW; (· omega)) | (apply zX; (· (first | omega | (dsimp only; omega)))) | (apply zY; (try (apply zY; apply zX; (· omega))); apply zX; (· omega); apply zX; (· (first | omega | (dsimp only; omega)))) | ((first | apply yJ | apply yK | apply yL | apply yM | apply yN | apply yO); (· exact hgA); (· exact hsA)) | (apply yNP; (· exact hgA); (· exact hsA)) | ((first | apply zA | apply zC | apply zE | apply zG); (· omega)) | ((first | apply zB | apply zD | apply zF | apply zH); (· omega)) | ((first | apply zI | apply zK); (· with_reducible assumption)) | ((first | apply zJ | apply zL); (· with_reducible assumption)) | fail)
        conv => whnf
        exact h _ (AHeap.le.trans leA hle2)
      · have h3 : (b[0].length : Int) < to := by omega
        refine callS_walk tt_ok Try.func33 rfl (by kernel_rfl) ?_
        conv => whnf
        repeat' ((conv => whnf); first | (apply layValid_v; (· exact mtA); (· with_reducible assumption)) | (apply must_ok; (· (first | rfl | assumption | exact decide_eq_true (by omega)))) | (apply must_no; (· (first | rfl | assumption | exact decide_eq_false (by omega)))) | (apply caught_panic; (· exact hoA); (· exact hgA); intro H2 hle2 hg2) | ((first | (apply vB; (case h => with_reducible assumption)) | (apply vA; (case h => with_reducible assumption)) | (apply vC; (case h => with_reducible assumption))); (case hk => exact kpA); (case he => omega)) | ((first | (apply vI; (case h => with_reducible assumption)) | (apply vG; (case h => with_reducible assumption)) | (apply vK; (case h => with_reducible assumption))); (case hk => exact kpA); (case he => omega); (case hp => omega); (case' g => intro hr_ hc_)) | ((first | (apply vJ; (case h => with_reducible assumption)) | (apply vH; (case h => with_reducible assumption)) | (apply vL; (case h => with_reducible assumption))); (case hk => exact kpA); (case he => omega); (case' g => intro hr_ hc_)) | (apply drawS_auto mixed tt_ok; (· kernel_rfl)) | apply zZ | apply yA | apply yB | ((first | apply zA | apply zC | apply zE | apply zG); (· with_reducible assumption)) | ((first | apply zB | apply zD | apply zF | apply zH); (· with_reducible assumption)) | apply zM | apply zN | apply zO | apply zP | apply zQ | apply zR | apply zS | apply zT | apply zU | (apply zV; (· omega)) | (apply zW; (· omega)) | (apply zX; (· (first | omega | (dsimp only; omega)))) | (apply zY; (try (apply zY; apply zX; (· omega))); apply zX; (· omega); apply zX; (· (first | omega | (dsimp only; omega)))) | ((first | apply yJ | apply yK | apply yL | apply yM | apply yN | apply yO); (· exact hgA); (· exact hsA)) | (apply yNP; (· exact hgA); (· exact hsA)) | ((first | apply zA | apply zC | apply zE | apply zG); (· omega)) | ((first | apply zB | apply zD | apply zF | apply zH); (· omega)) | ((first | apply zI | apply zK); (· with_reducible assumption)) | ((first | apply zJ | apply zL); (· with_reducible assumption)) | fail)
        conv => whnf
        exact h _ (AHeap.le.trans leA hle2)
theorem cloneRow_s {i off off' : Nat} {c n : Nat} {xs : List Int} (ho : off' = off) (hn : n = xs.length) (hm : xs.length ≤ 1000000) {H : AHeap} {K : CK} (h1 : Row H (some ⟨i, off, none⟩) xs) (hne : xs ≠ []) (h : ∀ H', H.le H' → H'.size = H.size + 2 → H'.get (H.size + 1) = some (.cells (xs.map (Value.int .i64)) true 1) → K (.returned (.slice (some ⟨H.size + 1, 0, none⟩) xs.length xs.length)) H') :
    callS P (fnV 66) [.slice (some ⟨i, off', none⟩) n c] H K := by
  subst ho
  subst hn
  refine cloneRow_c hm h1 (fun H' v hle _ h3 => ?_)
  obtain ⟨rfl, h4, h5⟩ := h3 hne
  exact h H' hle h4 h5
theorem cloneRow_w {a : Option Addr} {c n : Nat} {xs : List Int} (hn : n = xs.length) (hm : xs.length ≤ 1000000) {H : AHeap} {K : CK} (h1 : Row H a xs) (h : ∀ H' v, H.le H' → ORowV H' H.size v xs → (xs ≠ [] → v = .slice (some ⟨H.size + 1, 0, none⟩) xs.length xs.length ∧ H'.size = H.size + 2 ∧ H'.get (H.size + 1) = some (.cells (xs.map (Value.int .i64)) true 1)) → K (.returned v) H') :
    callS P (fnV 66) [.slice a n c] H K := by
  subst hn
  exact cloneRow_c hm h1 h
theorem cutPos_c {a : Option Addr} {c f t : Nat} {m : List (List Int)} {H : AHeap} {K : CK} (hx : Mat H a m) (hv : blockB m = true) (hft : f < t ∧ t ≤ framesB m)
    (h : ∀ H' o rs, H.le H' → OMat H' H.size o rs (cutM f t m) [] → K (.returned (.tuple #[.slice (some ⟨o, 0, none⟩) m.length m.length, iv 0])) H') : callS P (fnV 33) [.slice a m.length c, iv f, iv t] H K := by
  obtain ⟨hC, hN, hR⟩ := cut_rows hv
  have hfr := frames0 (m := m) (by omega)
  have hft2 : f < t ∧ t ≤ m[0].length := by omega
  obtain ⟨i0, off, rfl⟩ := hx.at (k := 0) (by omega)
  have hql := cutM_len f t m
  obtain ⟨q, hq⟩ : ∃ q, q = cutM f t m := ⟨_, rfl⟩
  rw [← hq] at hql h
  have hqg : ∀ k (h1 : k < m.length), q[k]'(by omega) = cutR f t m[k] := by
    subst hq
    intro k h1
    exact cutM_get h1
  refine callS_walk tt_ok Try.func33 rfl (by kernel_rfl) ?_
  conv => whnf
  repeat' ((conv => whnf); first | (apply layValid_v; (· exact mtA); (· with_reducible assumption)) | (apply must_ok; (· (first | rfl | assumption | exact decide_eq_true (by omega)))) | ((first | (apply vB; (case h => with_reducible assumption)) | (apply vA; (case h => with_reducible assumption)) | (apply vC; (case h => with_reducible assumption))); (case hk => exact kpA); (case he => omega)) | ((first | (apply vI; (case h => with_reducible assumption)) | (apply vG; (case h => with_reducible assumption)) | (apply vK; (case h => with_reducible assumption))); (case hk => exact kpA); (case he => omega); (case hp => omega); (case' g => intro hr_ hc_)) | ((first | (apply vJ; (case h => with_reducible assumption)) | (apply vH; (case h => with_reducible assumption)) | (apply vL; (case h => with_reducible assumption))); (case hk => exact kpA); (case he => omega); (case' g => intro hr_ hc_)) | (apply drawS_auto mixed tt_ok; (· kernel_rfl)) | apply zZ | apply yA | apply yB | ((first | apply zA | apply zC | apply zE | apply zG); (· with_reducible assumption)) | ((first | apply zB | apply zD | apply zF | apply zH); (· with_reducible assumption)) | apply zM | apply zN | apply zO | apply zP | apply zQ | apply zR | apply zS | apply zT | apply zU | (apply zV; (· omega)) | (apply zW; (· omega)) | (apply zX; (· (first | omega | (dsimp only; omega)))) | (apply zY; (try (apply zY; apply zX; (· omega))); apply zX; (· omega); apply zX; (· (first | omega | (dsimp only; omega)))) | ((first | apply yJ | apply yK | apply yL | apply yM | apply yN | apply yO); (· exact hgA); (· exact hsA)) | (apply yNP; (· exact hgA); (· exact hsA)) | ((first | apply zA | apply zC | apply zE | apply zG); (· omega)) | ((first | apply zB | apply zD | apply zF | apply zH); (· omega)) | ((first | apply zI | apply zK); (· with_reducible assumption)) | ((first | apply zJ | apply zL); (· with_reducible assumption)) | fail)
  conv => whnf
  generalize hH0 : H.push _ = H0
  have hle0 : H.le H0 := by subst hH0; exact AHeap.le.push (AHeap.le.refl _) _
  have ge0 : H0.get H.size = some (.cells [iv 0] true 0) := by subst hH0; exact AHeap.push_new _ _
  have hz0 : H0.size = H.size + 1 := by subst hH0; exact AHeap.push_size _ _
  refine loopS_mask tt_ok (fun (k : Nat × AHeap × Value) => [.w, .p (iv f), .p (iv t), .w, .w, .w, .p (k.2.2), .p (.pointer (some ⟨H.size, 0, none⟩)), .w, .w, .w, .w, .w, .w, .w, .w, .w, .w, .w, .w, .w, .w, .w, .w, .w, .w, .w, .w, .w, .p (.slice (some ⟨i0, off, none⟩) m.length c), .p (iv m.length), .p (iv k.1), .w, .w, .w, .w, .w, .w, .w, .w, .w, .w, .w, .w, .w]) (fun (k : Nat × AHeap × Value) => k.2.1) (fun (k : Nat × AHeap × Value) => k.1 ≤ m.length ∧ H0.le k.2.1 ∧ OMatV k.2.1 H0.size k.2.2 (q.take k.1)) (fun (k : Nat × AHeap × Value) => m.length - k.1) (⟨0, H0, .slice none 0 0⟩) (⟨by omega, AHeap.le.refl _, .inl ⟨rfl, rfl⟩⟩) ?_ (fun k hk => ?_)
  · conv => whnf
    refine weakH_of (HW.refl _) ?_
    repeat' (first | exact WT.nil | refine WT.same ?_ | refine WT.drop ?_ | refine WT.int (by omega) ?_ | refine WT.eq (by assumption) ?_ | refine WT.bl (by first | assumption | (symm; assumption)) ?_ | refine WT.vv (by assumption) ?_)
  obtain ⟨k, H1, v⟩ := k
  obtain ⟨hk, hle, hv'⟩ := hk
  dsimp only at hk hle hv' ⊢
  have hsz := hle.size
  have hH1 := AHeap.le.trans hle0 hle
  have hkp := hH1.kp
  by_cases hlt : k < m.length
  · have hrl := (hR m[k] (List.getElem_mem _)).1
    have hts := take_succ_of (xs := q) (k := k) (by omega)
    have hqk := hqg k hlt
    have hrq : (q[k]'(by omega)).length = t - f := by rw [hqk]; exact cutR_len (by omega)
    have htl : (q.take k).length = k := by rw [List.length_take]; omega
    have hne : q[k]'(by omega) ≠ [] := fun e => by rw [e] at hrq; simp at hrq; omega
    rcases hv' with ⟨rfl, hk0⟩ | ⟨o, rs, rfl, hm⟩
    · have hk0 : k = 0 := by
        have := congrArg List.length hk0
        simpa [htl] using this
      subst hk0
      repeat' ((conv => whnf); first | (refine loadK_matS hx ?_ hlt (fun he_ => absurd he_ (by omega)) (fun ri ro rc hrow hcap => ?_); (· exact kpA); (have hsub : Row H (some ⟨ri, ro + f, none⟩) (q[0]'(by omega)) := by rw [hqk]; exact hrow.sub (a := f) (n := t - f) (by omega))) | (refine cloneRow_s ?_ ?_ ?_ (hsub.kp hkp) hne (fun H2 hle2 hz2 hg2 => ?_); (· simp); (· omega); (· omega); (have hs2 := hle2.size); (have hle02 := AHeap.le.trans hle hle2)) | ((first | (apply vB; (case h => with_reducible assumption)) | (apply vA; (case h => with_reducible assumption)) | (apply vC; (case h => with_reducible assumption))); (case hk => exact kpA); (case he => omega)) | ((first | (apply vI; (case h => with_reducible assumption)) | (apply vG; (case h => with_reducible assumption)) | (apply vK; (case h => with_reducible assumption))); (case hk => exact kpA); (case he => omega); (case hp => omega); (case' g => intro hr_ hc_)) | ((first | (apply vJ; (case h => with_reducible assumption)) | (apply vH; (case h => with_reducible assumption)) | (apply vL; (case h => with_reducible assumption))); (case hk => exact kpA); (case he => omega); (case' g => intro hr_ hc_)) | (apply drawS_auto mixed tt_ok; (· kernel_rfl)) | apply zZ | apply yA | apply yB | ((first | apply zA | apply zC | apply zE | apply zG); (· with_reducible assumption)) | ((first | apply zB | apply zD | apply zF | apply zH); (· with_reducible assumption)) | apply zM | apply zN | apply zO | apply zP | apply zQ | apply zR | apply zS | apply zT | apply zU | (apply zV; (· omega)) | (apply zW; (· omega)) | (apply zX; (· (first | omega | (dsimp only; omega)))) | (apply zY; (try (apply zY; apply zX; (· omega))); apply zX; (· omega); apply zX; (· (first | omega | (dsimp only; omega)))) | ((first | apply yJ | apply yK | apply yL | apply yM | apply yN | apply yO); (· exact hgA); (· exact hsA)) | (apply yNP; (· exact hgA); (· exact hsA)) | ((first | apply zA | apply zC | apply zE | apply zG); (· omega)) | ((first | apply zB | apply zD | apply zF | apply zH); (· omega)) | ((first | apply zI | apply zK); (· with_reducible assumption)) | ((first | apply zJ | apply zL); (· with_reducible assumption)) | fail)
      conv => whnf
      apply Exists.intro (1, _, _)
      refine ⟨?inv, ?mu, ?wk⟩
      case wk =>
        conv => whnf
        refine weakH_of (HW.refl _) ?_
        repeat' (first | exact WT.nil | refine WT.same ?_ | refine WT.drop ?_ | refine WT.int (by omega) ?_ | refine WT.eq (by assumption) ?_ | refine WT.bl (by first | assumption | (symm; assumption)) ?_ | refine WT.vv (by assumption) ?_)
      case mu => first | omega | (dsimp only; omega)
      case inv => exact ⟨by omega, leA, .inr ⟨_, _, by rw [hts]; rfl, by rw [hts]; exact OMat.one (x := q[0]'(by omega)) (r := H1.size + 1) hoA hoA hoA hgA hgA⟩⟩
    · have ho := hm.outer
      have hlt1 := hm.lt.1
      have hlo := hm.lo.1
      rw [List.append_nil] at ho
      have hzl : (zipS rs (q.take k)).length = k := by rw [zipS_len hm.len, htl]
      rw [htl]
      repeat' ((conv => whnf); first | (refine loadK_matS hx ?_ hlt (fun he_ => absurd he_ (by omega)) (fun ri ro rc hrow hcap => ?_); (· exact kpA); (have hsub : Row H (some ⟨ri, ro + f, none⟩) (q[k]'(by omega)) := by rw [hqk]; exact hrow.sub (a := f) (n := t - f) (by omega))) | (refine cloneRow_s ?_ ?_ ?_ (hsub.kp hkp) hne (fun H2 hle2 hz2 hg2 => ?_); (· simp); (· omega); (· omega); (have hs2 := hle2.size); (have hle02 := AHeap.le.trans hle hle2); (have ho2 := (hle2.get o hlt1).trans ho); (have hgt2 : ∀ i, i < H1.size → H2.get i = H1.get i := hle2.get)) | ((first | (apply vB; (case h => with_reducible assumption)) | (apply vA; (case h => with_reducible assumption)) | (apply vC; (case h => with_reducible assumption))); (case hk => exact kpA); (case he => omega)) | ((first | (apply vI; (case h => with_reducible assumption)) | (apply vG; (case h => with_reducible assumption)) | (apply vK; (case h => with_reducible assumption))); (case hk => exact kpA); (case he => omega); (case hp => omega); (case' g => intro hr_ hc_)) | ((first | (apply vJ; (case h => with_reducible assumption)) | (apply vH; (case h => with_reducible assumption)) | (apply vL; (case h => with_reducible assumption))); (case hk => exact kpA); (case he => omega); (case' g => intro hr_ hc_)) | (apply drawS_auto mixed tt_ok; (· kernel_rfl)) | apply zZ | apply yA | apply yB | ((first | apply zA | apply zC | apply zE | apply zG); (· with_reducible assumption)) | ((first | apply zB | apply zD | apply zF | apply zH); (· with_reducible assumption)) | apply zM | apply zN | apply zO | apply zP | apply zQ | apply zR | apply zS | apply zT | apply zU | (apply zV; (· omega)) | (apply zW; (· omega)) | (apply zX; (· (first | omega | (dsimp only; omega)))) | (apply zY; (try (apply zY; apply zX; (· omega))); apply zX; (· omega); apply zX; (· (first | omega | (dsimp only; omega)))) | ((first | apply yJ | apply yK | apply yL | apply yM | apply yN | apply yO); (· exact hgA); (· exact hsA)) | (apply yNP; (· exact hgA); (· exact hsA)) | ((first | apply zA | apply zC | apply zE | apply zG); (· omega)) | ((first | apply zB | apply zD | apply zF | apply zH); (· omega)) | ((first | apply zI | apply zK); (· with_reducible assumption)) | ((first | apply zJ | apply zL); (· with_reducible assumption)) | fail)
      conv => whnf
      apply Exists.intro (k + 1, _, _)
      refine ⟨?inv, ?mu, ?wk⟩
      case wk =>
        conv => whnf
        refine weakH_of (HW.refl _) ?_
        repeat' (first | exact WT.nil | refine WT.same ?_ | refine WT.drop ?_ | refine WT.int (by omega) ?_ | refine WT.eq (by assumption) ?_ | refine WT.bl (by first | assumption | (symm; assumption)) ?_ | refine WT.vv (by assumption) ?_)
      case mu => first | omega | (dsimp only; omega)
      case inv => exact ⟨by omega, leA, .inr ⟨_, _, by rw [hts, List.length_append, htl]; rfl, by rw [hts]; exact hm.snoc (x := q[k]'(by omega)) (r := H1.size + 1) hsz hoA hoA hoA hgA hgA (fun i hi hne => (yS _ _ hoA).trans ((yT _ hne).trans ((yS _ _ hoA).trans (hle2.get i hi))))⟩⟩
  · have hkn : k = m.length := by omega
    rw [hkn, ← hql, List.take_length] at hv'
    have ge1 := (hle.get H.size (by omega)).trans ge0
    rcases hv' with ⟨rfl, hk0⟩ | ⟨o, rs, rfl, hm⟩
    · have : m.length = 0 := by rw [← hql, hk0]; rfl
      omega
    · rw [hql]
      have hoj : ∀ j, j = o ∨ j ∈ rs → H0.size ≤ j := fun j hj => by
        rcases hj with rfl | hj
        · exact hm.lo.1
        · exact hm.lo.2 _ hj
      repeat' ((conv => whnf); first | (apply caught_ret; (· exact hoA); (· exact hgA); intro H5 hle5 hg5) | ((first | (apply vB; (case h => with_reducible assumption)) | (apply vA; (case h => with_reducible assumption)) | (apply vC; (case h => with_reducible assumption))); (case hk => exact kpA); (case he => omega)) | ((first | (apply vI; (case h => with_reducible assumption)) | (apply vG; (case h => with_reducible assumption)) | (apply vK; (case h => with_reducible assumption))); (case hk => exact kpA); (case he => omega); (case hp => omega); (case' g => intro hr_ hc_)) | ((first | (apply vJ; (case h => with_reducible assumption)) | (apply vH; (case h => with_reducible assumption)) | (apply vL; (case h => with_reducible assumption))); (case hk => exact kpA); (case he => omega); (case' g => intro hr_ hc_)) | (apply drawS_auto mixed tt_ok; (· kernel_rfl)) | apply zZ | apply yA | apply yB | ((first | apply zA | apply zC | apply zE | apply zG); (· with_reducible assumption)) | ((first | apply zB | apply zD | apply zF | apply zH); (· with_reducible assumption)) | apply zM | apply zN | apply zO | apply zP | apply zQ | apply zR | apply zS | apply zT | apply zU | (apply zV; (· omega)) | (apply zW; (· omega)) | (apply zX; (· (first | omega | (dsimp only; omega)))) | (apply zY; (try (apply zY; apply zX; (· omega))); apply zX; (· omega); apply zX; (· (first | omega | (dsimp only; omega)))) | ((first | apply yJ | apply yK | apply yL | apply yM | apply yN | apply yO); (· exact hgA); (· exact hsA)) | (apply yNP; (· exact hgA); (· exact hsA)) | ((first | apply zA | apply zC | apply zE | apply zG); (· omega)) | ((first | apply zB | apply zD | apply zF | apply zH); (· omega)) | ((first | apply zI | apply zK); (· with_reducible assumption)) | ((first | apply zJ | apply zL); (· with_reducible assumption)) | fail)
      conv => whnf
      refine h _ _ _ (AHeap.le.trans leA hle5) ((hm.lower (by omega)).of_get (by have := hle5.size; rw [AHeap.set_size] at this; omega) (fun j hj hjm => ?_))
      exact (hle5.get j (by rw [AHeap.set_size]; exact hj)).trans (AHeap.set_ne _ _ (by have := hoj j hjm; omega))
end Go.Abs
