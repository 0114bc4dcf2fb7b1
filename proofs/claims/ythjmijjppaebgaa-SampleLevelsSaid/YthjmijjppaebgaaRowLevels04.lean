/- The statement SampleLevels is proved: for every input the law returns true and its arguments read as before; no conditions. -/
import Derived.Test.YthjmijjppaebgaaA04
import Derived.Test.YthjmijjppaebgaaRows
set_option linter.all false
set_option maxHeartbeats 1000000
set_option maxRecDepth 20000
namespace Go.Abs
open Go Go.Proofs Go.Proofs.Ythjmijjppaebgaa Go.ChangeAt Go.RowKit Go.ChangeShapes Go.WideShapes
theorem Try.own2 : ownKnob Try.prog.godebug = none := by kernel_rfl
theorem awake_c {H : AHeap} {K : CK} (h : K (.returned (.bool true)) H) : callS P (fnV 18) [] H K :=
  callS_closed mixed tt_ok (n := 60) (by kernel_rfl) h
def bitsV (e : Int) : Int := if enc e then bitsF e else 0
def bitsE (e : Int) : Int := if enc e then 0 else 7
def levV (e x : Int) : Int := if enc e ∧ inS x then levF e x else 0
def levE (e x : Int) : Int := if enc e ∧ inS x then 0 else 7
abbrev inL (e l : Int) : Prop := 0 - maxF e ≤ l ∧ l ≤ maxF e
def samV (e l : Int) : Int := if enc e ∧ inL e l then sampF e l else 0
def samE (e l : Int) : Int := if enc e ∧ inL e l then 0 else 7
abbrev sizeOk (e c f : Int) : Prop := enc e ∧ (1 ≤ c ∧ c ≤ 8) ∧ (0 ≤ f ∧ f ≤ 4096)
def sizV (e c f : Int) : Int := if sizeOk e c f then (bitsF e).tdiv 8 * c * f else 0
def sizE (e c f : Int) : Int := if sizeOk e c f then 0 else 7

theorem bits1_c {e : Int} {H : AHeap} {K : CK} (h : ∀ H', K (.returned (.tuple #[iv (bitsV e), iv (bitsE e)])) H') : callS P (fnV 10) [iv e] H K := by
  unfold bitsV bitsE at h
  by_cases he : enc e
  · rw [if_pos he, if_pos he] at h
    refine callS_walk tt_ok Try.func10 rfl (by kernel_rfl) ?_
    conv => whnf
    repeat' ((conv => whnf); first | (apply known_t; (· assumption)) | (apply codings_c) | refine loadK_cod he hgA ?_ | refine bits_v he rfl ?_ | ((first | (apply vB; (case h => assumption)) | (apply vA; (case h => assumption)) | (apply vC; (case h => assumption))); (case hk => exact kpA); (case he => omega)) | ((first | (apply vI; (case h => assumption)) | (apply vG; (case h => assumption)) | (apply vK; (case h => assumption))); (case hk => exact kpA); (case he => omega); (case hp => omega); (case' g => intro hr_ hc_)) | ((first | (apply vJ; (case h => assumption)) | (apply vH; (case h => assumption)) | (apply vL; (case h => assumption))); (case hk => exact kpA); (case he => omega); (case' g => intro hr_ hc_)) | apply yA | apply yB | ((first | apply zA | apply zC | apply zE | apply zG); (· assumption)) | ((first | apply zB | apply zD | apply zF | apply zH); (· assumption)) | apply zM | apply zN | apply zO | apply zP | apply zQ | apply zR | apply zS | apply zT | apply zU | (apply zV; (· omega)) | (apply zW; (· omega)) | (apply zX; (· (first | omega | (dsimp only; omega)))) | (apply zY; (try (apply zY; apply zX; (· omega))); apply zX; (· omega); apply zX; (· (first | omega | (dsimp only; omega)))) | ((first | apply yJ | apply yK | apply yL | apply yM | apply yN | apply yO); (· exact hgA); (· exact hsA)) | ((first | apply zA | apply zC | apply zE | apply zG); (· omega)) | ((first | apply zB | apply zD | apply zF | apply zH); (· omega)) | ((first | apply zI | apply zK); (· assumption)) | ((first | apply zJ | apply zL); (· assumption)) | fail)
    conv => whnf
    exact h _
  · rw [if_neg he, if_neg he] at h
    refine callS_walk tt_ok Try.func10 rfl (by kernel_rfl) ?_
    conv => whnf
    repeat' ((conv => whnf); first | (apply known_f; (· assumption)) | ((first | (apply vB; (case h => assumption)) | (apply vA; (case h => assumption)) | (apply vC; (case h => assumption))); (case hk => exact kpA); (case he => omega)) | ((first | (apply vI; (case h => assumption)) | (apply vG; (case h => assumption)) | (apply vK; (case h => assumption))); (case hk => exact kpA); (case he => omega); (case hp => omega); (case' g => intro hr_ hc_)) | ((first | (apply vJ; (case h => assumption)) | (apply vH; (case h => assumption)) | (apply vL; (case h => assumption))); (case hk => exact kpA); (case he => omega); (case' g => intro hr_ hc_)) | apply yA | apply yB | ((first | apply zA | apply zC | apply zE | apply zG); (· assumption)) | ((first | apply zB | apply zD | apply zF | apply zH); (· assumption)) | apply zM | apply zN | apply zO | apply zP | apply zQ | apply zR | apply zS | apply zT | apply zU | (apply zV; (· omega)) | (apply zW; (· omega)) | (apply zX; (· (first | omega | (dsimp only; omega)))) | (apply zY; (try (apply zY; apply zX; (· omega))); apply zX; (· omega); apply zX; (· (first | omega | (dsimp only; omega)))) | ((first | apply yJ | apply yK | apply yL | apply yM | apply yN | apply yO); (· exact hgA); (· exact hsA)) | ((first | apply zA | apply zC | apply zE | apply zG); (· omega)) | ((first | apply zB | apply zD | apply zF | apply zH); (· omega)) | ((first | apply zI | apply zK); (· assumption)) | ((first | apply zJ | apply zL); (· assumption)) | fail)
    conv => whnf
    exact h _
theorem bits2_c {e : Int} {H : AHeap} {K : CK} (h : K (.returned (.tuple #[iv (bitsV e), iv (bitsE e)])) H) : callS P (fnV 11) [iv e] H K := by
  unfold bitsV bitsE at h
  by_cases he : enc e
  · rw [if_pos he, if_pos he] at h
    exact refBits_t he h
  · rw [if_neg he, if_neg he] at h
    exact refBits_f he h
theorem level1_c {e x : Int} {H : AHeap} {K : CK} (h : ∀ H', K (.returned (.tuple #[iv (levV e x), iv (levE e x)])) H') : callS P (fnV 12) [iv e, iv x] H K := by
  unfold levV levE at h
  by_cases he : enc e
  · by_cases hx : inS x
    · rw [if_pos ⟨he, hx⟩, if_pos ⟨he, hx⟩] at h
      refine callS_walk tt_ok Try.func12 rfl (by kernel_rfl) ?_
      conv => whnf
      repeat' ((conv => whnf); first | (apply known_t; (· assumption)) | (apply within_t; (· assumption)) | (apply codings_c) | refine loadK_cod he hgA ?_ | refine level_c he hx ?_ | ((first | (apply vB; (case h => assumption)) | (apply vA; (case h => assumption)) | (apply vC; (case h => assumption))); (case hk => exact kpA); (case he => omega)) | ((first | (apply vI; (case h => assumption)) | (apply vG; (case h => assumption)) | (apply vK; (case h => assumption))); (case hk => exact kpA); (case he => omega); (case hp => omega); (case' g => intro hr_ hc_)) | ((first | (apply vJ; (case h => assumption)) | (apply vH; (case h => assumption)) | (apply vL; (case h => assumption))); (case hk => exact kpA); (case he => omega); (case' g => intro hr_ hc_)) | (apply drawS_auto mixed tt_ok; (· kernel_rfl)) | apply zZ | apply yA | apply yB | ((first | apply zA | apply zC | apply zE | apply zG); (· assumption)) | ((first | apply zB | apply zD | apply zF | apply zH); (· assumption)) | apply zM | apply zN | apply zO | apply zP | apply zQ | apply zR | apply zS | apply zT | apply zU | (apply zV; (· omega)) | (apply zW; (· omega)) | (apply zX; (· (first | omega | (dsimp only; omega)))) | (apply zY; (try (apply zY; apply zX; (· omega))); apply zX; (· omega); apply zX; (· (first | omega | (dsimp only; omega)))) | ((first | apply yJ | apply yK | apply yL | apply yM | apply yN | apply yO); (· exact hgA); (· exact hsA)) | ((first | apply zA | apply zC | apply zE | apply zG); (· omega)) | ((first | apply zB | apply zD | apply zF | apply zH); (· omega)) | ((first | apply zI | apply zK); (· assumption)) | ((first | apply zJ | apply zL); (· assumption)) | fail)
      conv => whnf
      exact h _
    · rw [if_neg (fun hh => hx hh.2), if_neg (fun hh => hx hh.2)] at h
      refine callS_walk tt_ok Try.func12 rfl (by kernel_rfl) ?_
      conv => whnf
      repeat' ((conv => whnf); first | (apply known_t; (· assumption)) | (apply within_f; (· assumption)) | ((first | (apply vB; (case h => assumption)) | (apply vA; (case h => assumption)) | (apply vC; (case h => assumption))); (case hk => exact kpA); (case he => omega)) | ((first | (apply vI; (case h => assumption)) | (apply vG; (case h => assumption)) | (apply vK; (case h => assumption))); (case hk => exact kpA); (case he => omega); (case hp => omega); (case' g => intro hr_ hc_)) | ((first | (apply vJ; (case h => assumption)) | (apply vH; (case h => assumption)) | (apply vL; (case h => assumption))); (case hk => exact kpA); (case he => omega); (case' g => intro hr_ hc_)) | (apply drawS_auto mixed tt_ok; (· kernel_rfl)) | apply zZ | apply yA | apply yB | ((first | apply zA | apply zC | apply zE | apply zG); (· assumption)) | ((first | apply zB | apply zD | apply zF | apply zH); (· assumption)) | apply zM | apply zN | apply zO | apply zP | apply zQ | apply zR | apply zS | apply zT | apply zU | (apply zV; (· omega)) | (apply zW; (· omega)) | (apply zX; (· (first | omega | (dsimp only; omega)))) | (apply zY; (try (apply zY; apply zX; (· omega))); apply zX; (· omega); apply zX; (· (first | omega | (dsimp only; omega)))) | ((first | apply yJ | apply yK | apply yL | apply yM | apply yN | apply yO); (· exact hgA); (· exact hsA)) | ((first | apply zA | apply zC | apply zE | apply zG); (· omega)) | ((first | apply zB | apply zD | apply zF | apply zH); (· omega)) | ((first | apply zI | apply zK); (· assumption)) | ((first | apply zJ | apply zL); (· assumption)) | fail)
      conv => whnf
      exact h _
  · rw [if_neg (fun hh => he hh.1), if_neg (fun hh => he hh.1)] at h
    refine callS_walk tt_ok Try.func12 rfl (by kernel_rfl) ?_
    conv => whnf
    repeat' ((conv => whnf); first | (apply known_f; (· assumption)) | ((first | (apply vB; (case h => assumption)) | (apply vA; (case h => assumption)) | (apply vC; (case h => assumption))); (case hk => exact kpA); (case he => omega)) | ((first | (apply vI; (case h => assumption)) | (apply vG; (case h => assumption)) | (apply vK; (case h => assumption))); (case hk => exact kpA); (case he => omega); (case hp => omega); (case' g => intro hr_ hc_)) | ((first | (apply vJ; (case h => assumption)) | (apply vH; (case h => assumption)) | (apply vL; (case h => assumption))); (case hk => exact kpA); (case he => omega); (case' g => intro hr_ hc_)) | (apply drawS_auto mixed tt_ok; (· kernel_rfl)) | apply zZ | apply yA | apply yB | ((first | apply zA | apply zC | apply zE | apply zG); (· assumption)) | ((first | apply zB | apply zD | apply zF | apply zH); (· assumption)) | apply zM | apply zN | apply zO | apply zP | apply zQ | apply zR | apply zS | apply zT | apply zU | (apply zV; (· omega)) | (apply zW; (· omega)) | (apply zX; (· (first | omega | (dsimp only; omega)))) | (apply zY; (try (apply zY; apply zX; (· omega))); apply zX; (· omega); apply zX; (· (first | omega | (dsimp only; omega)))) | ((first | apply yJ | apply yK | apply yL | apply yM | apply yN | apply yO); (· exact hgA); (· exact hsA)) | ((first | apply zA | apply zC | apply zE | apply zG); (· omega)) | ((first | apply zB | apply zD | apply zF | apply zH); (· omega)) | ((first | apply zI | apply zK); (· assumption)) | ((first | apply zJ | apply zL); (· assumption)) | fail)
    conv => whnf
    exact h _
theorem level2_c {e x : Int} {H : AHeap} {K : CK} (h : K (.returned (.tuple #[iv (levV e x), iv (levE e x)])) H) : callS P (fnV 13) [iv e, iv x] H K := by
  unfold levV levE at h
  by_cases he : enc e
  · by_cases hx : inS x
    · rw [if_pos ⟨he, hx⟩, if_pos ⟨he, hx⟩] at h
      refine callS_walk tt_ok Try.func13 rfl (by kernel_rfl) ?_
      conv => whnf
      repeat' ((conv => whnf); first | (apply refBits_t; (· assumption)) | (apply levelled_c; (· assumption); (· assumption)) | (apply drawS_auto mixed tt_ok; (· kernel_rfl)) | apply zZ | apply yA | apply yB | ((first | apply zA | apply zC | apply zE | apply zG); (· assumption)) | ((first | apply zB | apply zD | apply zF | apply zH); (· assumption)) | apply zM | apply zN | apply zO | apply zP | apply zQ | apply zR | apply zS | apply zT | apply zU | (apply zV; (· omega)) | (apply zW; (· omega)) | (apply zX; (· (first | omega | (dsimp only; omega)))) | (apply zY; (try (apply zY; apply zX; (· omega))); apply zX; (· omega); apply zX; (· (first | omega | (dsimp only; omega)))) | ((first | apply zA | apply zC | apply zE | apply zG); (· omega)) | ((first | apply zB | apply zD | apply zF | apply zH); (· omega)) | ((first | apply zI | apply zK); (· assumption)) | ((first | apply zJ | apply zL); (· assumption)) | fail)
      conv => whnf
      exact h
    · rw [if_neg (fun hh => hx hh.2), if_neg (fun hh => hx hh.2)] at h
      by_cases h1 : x < -8388607
      · skip
        refine callS_walk tt_ok Try.func13 rfl (by kernel_rfl) ?_
        conv => whnf
        repeat' ((conv => whnf); first | (apply refBits_t; (· assumption)) | (apply drawS_auto mixed tt_ok; (· kernel_rfl)) | apply zZ | apply yA | apply yB | ((first | apply zA | apply zC | apply zE | apply zG); (· assumption)) | ((first | apply zB | apply zD | apply zF | apply zH); (· assumption)) | apply zM | apply zN | apply zO | apply zP | apply zQ | apply zR | apply zS | apply zT | apply zU | (apply zV; (· omega)) | (apply zW; (· omega)) | (apply zX; (· (first | omega | (dsimp only; omega)))) | (apply zY; (try (apply zY; apply zX; (· omega))); apply zX; (· omega); apply zX; (· (first | omega | (dsimp only; omega)))) | ((first | apply zA | apply zC | apply zE | apply zG); (· omega)) | ((first | apply zB | apply zD | apply zF | apply zH); (· omega)) | ((first | apply zI | apply zK); (· assumption)) | ((first | apply zJ | apply zL); (· assumption)) | fail)
        conv => whnf
        exact h
      · have h2 : 8388607 < x := by omega
        refine callS_walk tt_ok Try.func13 rfl (by kernel_rfl) ?_
        conv => whnf
        repeat' ((conv => whnf); first | (apply refBits_t; (· assumption)) | (apply drawS_auto mixed tt_ok; (· kernel_rfl)) | apply zZ | apply yA | apply yB | ((first | apply zA | apply zC | apply zE | apply zG); (· assumption)) | ((first | apply zB | apply zD | apply zF | apply zH); (· assumption)) | apply zM | apply zN | apply zO | apply zP | apply zQ | apply zR | apply zS | apply zT | apply zU | (apply zV; (· omega)) | (apply zW; (· omega)) | (apply zX; (· (first | omega | (dsimp only; omega)))) | (apply zY; (try (apply zY; apply zX; (· omega))); apply zX; (· omega); apply zX; (· (first | omega | (dsimp only; omega)))) | ((first | apply zA | apply zC | apply zE | apply zG); (· omega)) | ((first | apply zB | apply zD | apply zF | apply zH); (· omega)) | ((first | apply zI | apply zK); (· assumption)) | ((first | apply zJ | apply zL); (· assumption)) | fail)
        conv => whnf
        exact h
  · rw [if_neg (fun hh => he hh.1), if_neg (fun hh => he hh.1)] at h
    refine callS_walk tt_ok Try.func13 rfl (by kernel_rfl) ?_
    conv => whnf
    repeat' ((conv => whnf); first | (apply refBits_f; (· assumption)) | (apply drawS_auto mixed tt_ok; (· kernel_rfl)) | apply zZ | apply yA | apply yB | ((first | apply zA | apply zC | apply zE | apply zG); (· assumption)) | ((first | apply zB | apply zD | apply zF | apply zH); (· assumption)) | apply zM | apply zN | apply zO | apply zP | apply zQ | apply zR | apply zS | apply zT | apply zU | (apply zV; (· omega)) | (apply zW; (· omega)) | (apply zX; (· (first | omega | (dsimp only; omega)))) | (apply zY; (try (apply zY; apply zX; (· omega))); apply zX; (· omega); apply zX; (· (first | omega | (dsimp only; omega)))) | ((first | apply zA | apply zC | apply zE | apply zG); (· omega)) | ((first | apply zB | apply zD | apply zF | apply zH); (· omega)) | ((first | apply zI | apply zK); (· assumption)) | ((first | apply zJ | apply zL); (· assumption)) | fail)
    conv => whnf
    exact h
theorem sample1_c {e l : Int} {H : AHeap} {K : CK} (h : ∀ H', K (.returned (.tuple #[iv (samV e l), iv (samE e l)])) H') : callS P (fnV 14) [iv e, iv l] H K := by
  have hm := maxF_bd e
  unfold samV samE at h
  by_cases he : enc e
  · by_cases hx : inL e l
    · rw [if_pos ⟨he, hx⟩, if_pos ⟨he, hx⟩] at h
      refine callS_walk tt_ok Try.func14 rfl (by kernel_rfl) ?_
      conv => whnf
      repeat' ((conv => whnf); first | (apply known_t; (· assumption)) | (apply codings_c) | refine loadK_cod he hgA ?_ | refine bits_v he rfl ?_ | refine top_c he rfl ?_ | (apply within_t; (· assumption)) | refine sampled_c he hx ?_ | ((first | (apply vB; (case h => assumption)) | (apply vA; (case h => assumption)) | (apply vC; (case h => assumption))); (case hk => exact kpA); (case he => omega)) | ((first | (apply vI; (case h => assumption)) | (apply vG; (case h => assumption)) | (apply vK; (case h => assumption))); (case hk => exact kpA); (case he => omega); (case hp => omega); (case' g => intro hr_ hc_)) | ((first | (apply vJ; (case h => assumption)) | (apply vH; (case h => assumption)) | (apply vL; (case h => assumption))); (case hk => exact kpA); (case he => omega); (case' g => intro hr_ hc_)) | (apply drawS_auto mixed tt_ok; (· kernel_rfl)) | apply zZ | apply yA | apply yB | ((first | apply zA | apply zC | apply zE | apply zG); (· assumption)) | ((first | apply zB | apply zD | apply zF | apply zH); (· assumption)) | apply zM | apply zN | apply zO | apply zP | apply zQ | apply zR | apply zS | apply zT | apply zU | (apply zV; (· omega)) | (apply zW; (· omega)) | (apply zX; (· (first | omega | (dsimp only; omega)))) | (apply zY; (try (apply zY; apply zX; (· omega))); apply zX; (· omega); apply zX; (· (first | omega | (dsimp only; omega)))) | ((first | apply yJ | apply yK | apply yL | apply yM | apply yN | apply yO); (· exact hgA); (· exact hsA)) | ((first | apply zA | apply zC | apply zE | apply zG); (· omega)) | ((first | apply zB | apply zD | apply zF | apply zH); (· omega)) | ((first | apply zI | apply zK); (· assumption)) | ((first | apply zJ | apply zL); (· assumption)) | fail)
      conv => whnf
      exact h _
    · rw [if_neg (fun hh => hx hh.2), if_neg (fun hh => hx hh.2)] at h
      refine callS_walk tt_ok Try.func14 rfl (by kernel_rfl) ?_
      conv => whnf
      repeat' ((conv => whnf); first | (apply known_t; (· assumption)) | (apply codings_c) | refine loadK_cod he hgA ?_ | refine bits_v he rfl ?_ | refine top_c he rfl ?_ | (apply within_f; (· assumption)) | ((first | (apply vB; (case h => assumption)) | (apply vA; (case h => assumption)) | (apply vC; (case h => assumption))); (case hk => exact kpA); (case he => omega)) | ((first | (apply vI; (case h => assumption)) | (apply vG; (case h => assumption)) | (apply vK; (case h => assumption))); (case hk => exact kpA); (case he => omega); (case hp => omega); (case' g => intro hr_ hc_)) | ((first | (apply vJ; (case h => assumption)) | (apply vH; (case h => assumption)) | (apply vL; (case h => assumption))); (case hk => exact kpA); (case he => omega); (case' g => intro hr_ hc_)) | (apply drawS_auto mixed tt_ok; (· kernel_rfl)) | apply zZ | apply yA | apply yB | ((first | apply zA | apply zC | apply zE | apply zG); (· assumption)) | ((first | apply zB | apply zD | apply zF | apply zH); (· assumption)) | apply zM | apply zN | apply zO | apply zP | apply zQ | apply zR | apply zS | apply zT | apply zU | (apply zV; (· omega)) | (apply zW; (· omega)) | (apply zX; (· (first | omega | (dsimp only; omega)))) | (apply zY; (try (apply zY; apply zX; (· omega))); apply zX; (· omega); apply zX; (· (first | omega | (dsimp only; omega)))) | ((first | apply yJ | apply yK | apply yL | apply yM | apply yN | apply yO); (· exact hgA); (· exact hsA)) | ((first | apply zA | apply zC | apply zE | apply zG); (· omega)) | ((first | apply zB | apply zD | apply zF | apply zH); (· omega)) | ((first | apply zI | apply zK); (· assumption)) | ((first | apply zJ | apply zL); (· assumption)) | fail)
      conv => whnf
      exact h _
  · rw [if_neg (fun hh => he hh.1), if_neg (fun hh => he hh.1)] at h
    refine callS_walk tt_ok Try.func14 rfl (by kernel_rfl) ?_
    conv => whnf
    repeat' ((conv => whnf); first | (apply known_f; (· assumption)) | ((first | (apply vB; (case h => assumption)) | (apply vA; (case h => assumption)) | (apply vC; (case h => assumption))); (case hk => exact kpA); (case he => omega)) | ((first | (apply vI; (case h => assumption)) | (apply vG; (case h => assumption)) | (apply vK; (case h => assumption))); (case hk => exact kpA); (case he => omega); (case hp => omega); (case' g => intro hr_ hc_)) | ((first | (apply vJ; (case h => assumption)) | (apply vH; (case h => assumption)) | (apply vL; (case h => assumption))); (case hk => exact kpA); (case he => omega); (case' g => intro hr_ hc_)) | (apply drawS_auto mixed tt_ok; (· kernel_rfl)) | apply zZ | apply yA | apply yB | ((first | apply zA | apply zC | apply zE | apply zG); (· assumption)) | ((first | apply zB | apply zD | apply zF | apply zH); (· assumption)) | apply zM | apply zN | apply zO | apply zP | apply zQ | apply zR | apply zS | apply zT | apply zU | (apply zV; (· omega)) | (apply zW; (· omega)) | (apply zX; (· (first | omega | (dsimp only; omega)))) | (apply zY; (try (apply zY; apply zX; (· omega))); apply zX; (· omega); apply zX; (· (first | omega | (dsimp only; omega)))) | ((first | apply yJ | apply yK | apply yL | apply yM | apply yN | apply yO); (· exact hgA); (· exact hsA)) | ((first | apply zA | apply zC | apply zE | apply zG); (· omega)) | ((first | apply zB | apply zD | apply zF | apply zH); (· omega)) | ((first | apply zI | apply zK); (· assumption)) | ((first | apply zJ | apply zL); (· assumption)) | fail)
    conv => whnf
    exact h _
theorem sample2_c {e l : Int} {H : AHeap} {K : CK} (h : K (.returned (.tuple #[iv (samV e l), iv (samE e l)])) H) : callS P (fnV 15) [iv e, iv l] H K := by
  have hm := maxF_bd e
  unfold samV samE at h
  by_cases he : enc e
  · by_cases hx : inL e l
    · rw [if_pos ⟨he, hx⟩, if_pos ⟨he, hx⟩] at h
      refine callS_walk tt_ok Try.func15 rfl (by kernel_rfl) ?_
      conv => whnf
      repeat' ((conv => whnf); first | (apply refBits_t; (· assumption)) | (apply refTop_c; (· assumption)) | (apply refSampled_c; (· assumption); (· assumption)) | (apply drawS_auto mixed tt_ok; (· kernel_rfl)) | apply zZ | apply yA | apply yB | ((first | apply zA | apply zC | apply zE | apply zG); (· assumption)) | ((first | apply zB | apply zD | apply zF | apply zH); (· assumption)) | apply zM | apply zN | apply zO | apply zP | apply zQ | apply zR | apply zS | apply zT | apply zU | (apply zV; (· omega)) | (apply zW; (· omega)) | (apply zX; (· (first | omega | (dsimp only; omega)))) | (apply zY; (try (apply zY; apply zX; (· omega))); apply zX; (· omega); apply zX; (· (first | omega | (dsimp only; omega)))) | ((first | apply zA | apply zC | apply zE | apply zG); (· omega)) | ((first | apply zB | apply zD | apply zF | apply zH); (· omega)) | ((first | apply zI | apply zK); (· assumption)) | ((first | apply zJ | apply zL); (· assumption)) | fail)
      conv => whnf
      exact h
    · rw [if_neg (fun hh => hx hh.2), if_neg (fun hh => hx hh.2)] at h
      by_cases h1 : l < 0 - maxF e
      · skip
        refine callS_walk tt_ok Try.func15 rfl (by kernel_rfl) ?_
        conv => whnf
        repeat' ((conv => whnf); first | (apply refBits_t; (· assumption)) | (apply refTop_c; (· assumption)) | (apply drawS_auto mixed tt_ok; (· kernel_rfl)) | apply zZ | apply yA | apply yB | ((first | apply zA | apply zC | apply zE | apply zG); (· assumption)) | ((first | apply zB | apply zD | apply zF | apply zH); (· assumption)) | apply zM | apply zN | apply zO | apply zP | apply zQ | apply zR | apply zS | apply zT | apply zU | (apply zV; (· omega)) | (apply zW; (· omega)) | (apply zX; (· (first | omega | (dsimp only; omega)))) | (apply zY; (try (apply zY; apply zX; (· omega))); apply zX; (· omega); apply zX; (· (first | omega | (dsimp only; omega)))) | ((first | apply zA | apply zC | apply zE | apply zG); (· omega)) | ((first | apply zB | apply zD | apply zF | apply zH); (· omega)) | ((first | apply zI | apply zK); (· assumption)) | ((first | apply zJ | apply zL); (· assumption)) | fail)
        conv => whnf
        exact h
      · have h2 : maxF e < l := by omega
        refine callS_walk tt_ok Try.func15 rfl (by kernel_rfl) ?_
        conv => whnf
        repeat' ((conv => whnf); first | (apply refBits_t; (· assumption)) | (apply refTop_c; (· assumption)) | (apply drawS_auto mixed tt_ok; (· kernel_rfl)) | apply zZ | apply yA | apply yB | ((first | apply zA | apply zC | apply zE | apply zG); (· assumption)) | ((first | apply zB | apply zD | apply zF | apply zH); (· assumption)) | apply zM | apply zN | apply zO | apply zP | apply zQ | apply zR | apply zS | apply zT | apply zU | (apply zV; (· omega)) | (apply zW; (· omega)) | (apply zX; (· (first | omega | (dsimp only; omega)))) | (apply zY; (try (apply zY; apply zX; (· omega))); apply zX; (· omega); apply zX; (· (first | omega | (dsimp only; omega)))) | ((first | apply zA | apply zC | apply zE | apply zG); (· omega)) | ((first | apply zB | apply zD | apply zF | apply zH); (· omega)) | ((first | apply zI | apply zK); (· assumption)) | ((first | apply zJ | apply zL); (· assumption)) | fail)
        conv => whnf
        exact h
  · rw [if_neg (fun hh => he hh.1), if_neg (fun hh => he hh.1)] at h
    refine callS_walk tt_ok Try.func15 rfl (by kernel_rfl) ?_
    conv => whnf
    repeat' ((conv => whnf); first | (apply refBits_f; (· assumption)) | (apply drawS_auto mixed tt_ok; (· kernel_rfl)) | apply zZ | apply yA | apply yB | ((first | apply zA | apply zC | apply zE | apply zG); (· assumption)) | ((first | apply zB | apply zD | apply zF | apply zH); (· assumption)) | apply zM | apply zN | apply zO | apply zP | apply zQ | apply zR | apply zS | apply zT | apply zU | (apply zV; (· omega)) | (apply zW; (· omega)) | (apply zX; (· (first | omega | (dsimp only; omega)))) | (apply zY; (try (apply zY; apply zX; (· omega))); apply zX; (· omega); apply zX; (· (first | omega | (dsimp only; omega)))) | ((first | apply zA | apply zC | apply zE | apply zG); (· omega)) | ((first | apply zB | apply zD | apply zF | apply zH); (· omega)) | ((first | apply zI | apply zK); (· assumption)) | ((first | apply zJ | apply zL); (· assumption)) | fail)
    conv => whnf
    exact h
theorem size_bd {b c f : Int} (hb : 1 ≤ b ∧ b ≤ 4) (hc : 1 ≤ c ∧ c ≤ 8) (hf : 0 ≤ f ∧ f ≤ 4096) : (0 ≤ b * c ∧ b * c ≤ 32) ∧ (0 ≤ b * c * f ∧ b * c * f ≤ 131072) := by
  have h1 : 0 ≤ b * c := Int.mul_nonneg (by omega) (by omega)
  have h2 : b * c ≤ 4 * 8 := Int.mul_le_mul hb.2 hc.2 (by omega) (by omega)
  have h3 : 0 ≤ b * c * f := Int.mul_nonneg h1 hf.1
  have h4 : b * c * f ≤ 32 * 4096 := Int.mul_le_mul (by omega) hf.2 hf.1 (by omega)
  omega
theorem bits_div {e : Int} (he : enc e) : 1 ≤ (bitsF e).tdiv 8 ∧ (bitsF e).tdiv 8 ≤ 4 := by
  have hb : 8 ≤ bitsF e ∧ bitsF e ≤ 32 := by unfold bitsF; omega
  rw [Int.tdiv_eq_ediv_of_nonneg (by omega)]
  omega
theorem size1_c {e c f : Int} {H : AHeap} {K : CK} (h : ∀ H', K (.returned (.tuple #[iv (sizV e c f), iv (sizE e c f)])) H') : callS P (fnV 16) [iv e, iv c, iv f] H K := by
  unfold sizV sizE at h
  by_cases he : enc e
  · by_cases hc : 1 ≤ c ∧ c ≤ 8
    · by_cases hf : 0 ≤ f ∧ f ≤ 4096
      · rw [if_pos ⟨he, hc, hf⟩, if_pos ⟨he, hc, hf⟩] at h
        have hb := bits_div he
        have hs := size_bd hb hc hf
        refine callS_walk tt_ok Try.func16 rfl (by kernel_rfl) ?_
        conv => whnf
        repeat' ((conv => whnf); first | (apply known_t; (· assumption)) | (apply within_t; (· assumption)) | (apply codings_c) | refine loadK_cod he hgA ?_ | refine bits_v he rfl ?_ | ((first | (apply vB; (case h => assumption)) | (apply vA; (case h => assumption)) | (apply vC; (case h => assumption))); (case hk => exact kpA); (case he => omega)) | ((first | (apply vI; (case h => assumption)) | (apply vG; (case h => assumption)) | (apply vK; (case h => assumption))); (case hk => exact kpA); (case he => omega); (case hp => omega); (case' g => intro hr_ hc_)) | ((first | (apply vJ; (case h => assumption)) | (apply vH; (case h => assumption)) | (apply vL; (case h => assumption))); (case hk => exact kpA); (case he => omega); (case' g => intro hr_ hc_)) | (apply drawS_auto mixed tt_ok; (· kernel_rfl)) | apply zZ | apply yA | apply yB | ((first | apply zA | apply zC | apply zE | apply zG); (· assumption)) | ((first | apply zB | apply zD | apply zF | apply zH); (· assumption)) | apply zM | apply zN | apply zO | apply zP | apply zQ | apply zR | apply zS | apply zT | apply zU | (apply zV; (· omega)) | (apply zW; (· omega)) | (apply zX; (· (first | omega | (dsimp only; omega)))) | (apply zY; (try (apply zY; apply zX; (· omega))); apply zX; (· omega); apply zX; (· (first | omega | (dsimp only; omega)))) | ((first | apply yJ | apply yK | apply yL | apply yM | apply yN | apply yO); (· exact hgA); (· exact hsA)) | ((first | apply zA | apply zC | apply zE | apply zG); (· omega)) | ((first | apply zB | apply zD | apply zF | apply zH); (· omega)) | ((first | apply zI | apply zK); (· assumption)) | ((first | apply zJ | apply zL); (· assumption)) | fail)
        conv => whnf
        exact h _
      · rw [if_neg (fun hh => hf hh.2.2), if_neg (fun hh => hf hh.2.2)] at h
        refine callS_walk tt_ok Try.func16 rfl (by kernel_rfl) ?_
        conv => whnf
        repeat' ((conv => whnf); first | (apply known_t; (· assumption)) | (apply within_t; (· assumption)) | (apply within_f; (· assumption)) | ((first | (apply vB; (case h => assumption)) | (apply vA; (case h => assumption)) | (apply vC; (case h => assumption))); (case hk => exact kpA); (case he => omega)) | ((first | (apply vI; (case h => assumption)) | (apply vG; (case h => assumption)) | (apply vK; (case h => assumption))); (case hk => exact kpA); (case he => omega); (case hp => omega); (case' g => intro hr_ hc_)) | ((first | (apply vJ; (case h => assumption)) | (apply vH; (case h => assumption)) | (apply vL; (case h => assumption))); (case hk => exact kpA); (case he => omega); (case' g => intro hr_ hc_)) | (apply drawS_auto mixed tt_ok; (· kernel_rfl)) | apply zZ | apply yA | apply yB | ((first | apply zA | apply zC | apply zE | apply zG); (· assumption)) | ((first | apply zB | apply zD | apply zF | apply zH); (· assumption)) | apply zM | apply zN | apply zO | apply zP | apply zQ | apply zR | apply zS | apply zT | apply zU | (apply zV; (· omega)) | (apply zW; (· omega)) | (apply zX; (· (first | omega | (dsimp only; omega)))) | (apply zY; (try (apply zY; apply zX; (· omega))); apply zX; (· omega); apply zX; (· (first | omega | (dsimp only; omega)))) | ((first | apply yJ | apply yK | apply yL | apply yM | apply yN | apply yO); (· exact hgA); (· exact hsA)) | ((first | apply zA | apply zC | apply zE | apply zG); (· omega)) | ((first | apply zB | apply zD | apply zF | apply zH); (· omega)) | ((first | apply zI | apply zK); (· assumption)) | ((first | apply zJ | apply zL); (· assumption)) | fail)
        conv => whnf
        exact h _
    · rw [if_neg (fun hh => hc hh.2.1), if_neg (fun hh => hc hh.2.1)] at h
      refine callS_walk tt_ok Try.func16 rfl (by kernel_rfl) ?_
      conv => whnf
      repeat' ((conv => whnf); first | (apply known_t; (· assumption)) | (apply within_f; (· assumption)) | ((first | (apply vB; (case h => assumption)) | (apply vA; (case h => assumption)) | (apply vC; (case h => assumption))); (case hk => exact kpA); (case he => omega)) | ((first | (apply vI; (case h => assumption)) | (apply vG; (case h => assumption)) | (apply vK; (case h => assumption))); (case hk => exact kpA); (case he => omega); (case hp => omega); (case' g => intro hr_ hc_)) | ((first | (apply vJ; (case h => assumption)) | (apply vH; (case h => assumption)) | (apply vL; (case h => assumption))); (case hk => exact kpA); (case he => omega); (case' g => intro hr_ hc_)) | (apply drawS_auto mixed tt_ok; (· kernel_rfl)) | apply zZ | apply yA | apply yB | ((first | apply zA | apply zC | apply zE | apply zG); (· assumption)) | ((first | apply zB | apply zD | apply zF | apply zH); (· assumption)) | apply zM | apply zN | apply zO | apply zP | apply zQ | apply zR | apply zS | apply zT | apply zU | (apply zV; (· omega)) | (apply zW; (· omega)) | (apply zX; (· (first | omega | (dsimp only; omega)))) | (apply zY; (try (apply zY; apply zX; (· omega))); apply zX; (· omega); apply zX; (· (first | omega | (dsimp only; omega)))) | ((first | apply yJ | apply yK | apply yL | apply yM | apply yN | apply yO); (· exact hgA); (· exact hsA)) | ((first | apply zA | apply zC | apply zE | apply zG); (· omega)) | ((first | apply zB | apply zD | apply zF | apply zH); (· omega)) | ((first | apply zI | apply zK); (· assumption)) | ((first | apply zJ | apply zL); (· assumption)) | fail)
      conv => whnf
      exact h _
  · rw [if_neg (fun hh => he hh.1), if_neg (fun hh => he hh.1)] at h
    refine callS_walk tt_ok Try.func16 rfl (by kernel_rfl) ?_
    conv => whnf
    repeat' ((conv => whnf); first | (apply known_f; (· assumption)) | ((first | (apply vB; (case h => assumption)) | (apply vA; (case h => assumption)) | (apply vC; (case h => assumption))); (case hk => exact kpA); (case he => omega)) | ((first | (apply vI; (case h => assumption)) | (apply vG; (case h => assumption)) | (apply vK; (case h => assumption))); (case hk => exact kpA); (case he => omega); (case hp => omega); (case' g => intro hr_ hc_)) | ((first | (apply vJ; (case h => assumption)) | (apply vH; (case h => assumption)) | (apply vL; (case h => assumption))); (case hk => exact kpA); (case he => omega); (case' g => intro hr_ hc_)) | (apply drawS_auto mixed tt_ok; (· kernel_rfl)) | apply zZ | apply yA | apply yB | ((first | apply zA | apply zC | apply zE | apply zG); (· assumption)) | ((first | apply zB | apply zD | apply zF | apply zH); (· assumption)) | apply zM | apply zN | apply zO | apply zP | apply zQ | apply zR | apply zS | apply zT | apply zU | (apply zV; (· omega)) | (apply zW; (· omega)) | (apply zX; (· (first | omega | (dsimp only; omega)))) | (apply zY; (try (apply zY; apply zX; (· omega))); apply zX; (· omega); apply zX; (· (first | omega | (dsimp only; omega)))) | ((first | apply yJ | apply yK | apply yL | apply yM | apply yN | apply yO); (· exact hgA); (· exact hsA)) | ((first | apply zA | apply zC | apply zE | apply zG); (· omega)) | ((first | apply zB | apply zD | apply zF | apply zH); (· omega)) | ((first | apply zI | apply zK); (· assumption)) | ((first | apply zJ | apply zL); (· assumption)) | fail)
    conv => whnf
    exact h _
theorem chan_t {c : Int} (hc : 1 ≤ c ∧ c ≤ 8) {H : AHeap} {K : CK} (h : K (.returned (.bool true)) H) : callS P (fnV 57) [iv c] H K := by
  refine callS_walk tt_ok Try.func57 rfl (by kernel_rfl) ?_
  conv => whnf
  repeat' ((conv => whnf); first | (apply drawS_auto mixed tt_ok; (· kernel_rfl)) | apply zZ | apply yA | apply yB | ((first | apply zA | apply zC | apply zE | apply zG); (· assumption)) | ((first | apply zB | apply zD | apply zF | apply zH); (· assumption)) | apply zM | apply zN | apply zO | apply zP | apply zQ | apply zR | apply zS | apply zT | apply zU | (apply zV; (· omega)) | (apply zW; (· omega)) | (apply zX; (· (first | omega | (dsimp only; omega)))) | (apply zY; (try (apply zY; apply zX; (· omega))); apply zX; (· omega); apply zX; (· (first | omega | (dsimp only; omega)))) | ((first | apply zA | apply zC | apply zE | apply zG); (· omega)) | ((first | apply zB | apply zD | apply zF | apply zH); (· omega)) | ((first | apply zI | apply zK); (· assumption)) | ((first | apply zJ | apply zL); (· assumption)) | fail)
  conv => whnf
  rw [decide_eq_true hc.2]
  exact h
theorem chan_f {c : Int} (hc : ¬(1 ≤ c ∧ c ≤ 8)) {H : AHeap} {K : CK} (h : K (.returned (.bool false)) H) : callS P (fnV 57) [iv c] H K := by
  refine callS_walk tt_ok Try.func57 rfl (by kernel_rfl) ?_
  conv => whnf
  by_cases h1 : 1 ≤ c
  · have h2 : decide (c ≤ 8) = false := decide_eq_false (fun h => hc ⟨h1, h⟩)
    repeat' ((conv => whnf); first | (apply drawS_auto mixed tt_ok; (· kernel_rfl)) | apply zZ | apply yA | apply yB | ((first | apply zA | apply zC | apply zE | apply zG); (· assumption)) | ((first | apply zB | apply zD | apply zF | apply zH); (· assumption)) | apply zM | apply zN | apply zO | apply zP | apply zQ | apply zR | apply zS | apply zT | apply zU | (apply zV; (· omega)) | (apply zW; (· omega)) | (apply zX; (· (first | omega | (dsimp only; omega)))) | (apply zY; (try (apply zY; apply zX; (· omega))); apply zX; (· omega); apply zX; (· (first | omega | (dsimp only; omega)))) | ((first | apply zA | apply zC | apply zE | apply zG); (· omega)) | ((first | apply zB | apply zD | apply zF | apply zH); (· omega)) | ((first | apply zI | apply zK); (· assumption)) | ((first | apply zJ | apply zL); (· assumption)) | fail)
    conv => whnf
    rw [h2]
    exact h
  · skip
    repeat' ((conv => whnf); first | (apply drawS_auto mixed tt_ok; (· kernel_rfl)) | apply zZ | apply yA | apply yB | ((first | apply zA | apply zC | apply zE | apply zG); (· assumption)) | ((first | apply zB | apply zD | apply zF | apply zH); (· assumption)) | apply zM | apply zN | apply zO | apply zP | apply zQ | apply zR | apply zS | apply zT | apply zU | (apply zV; (· omega)) | (apply zW; (· omega)) | (apply zX; (· (first | omega | (dsimp only; omega)))) | (apply zY; (try (apply zY; apply zX; (· omega))); apply zX; (· omega); apply zX; (· (first | omega | (dsimp only; omega)))) | ((first | apply zA | apply zC | apply zE | apply zG); (· omega)) | ((first | apply zB | apply zD | apply zF | apply zH); (· omega)) | ((first | apply zI | apply zK); (· assumption)) | ((first | apply zJ | apply zL); (· assumption)) | fail)
    conv => whnf
    exact h
theorem size2_c {e c f : Int} {H : AHeap} {K : CK} (h : K (.returned (.tuple #[iv (sizV e c f), iv (sizE e c f)])) H) : callS P (fnV 17) [iv e, iv c, iv f] H K := by
  unfold sizV sizE at h
  by_cases he : enc e
  · by_cases hc : 1 ≤ c ∧ c ≤ 8
    · by_cases hf : 0 ≤ f ∧ f ≤ 4096
      · rw [if_pos ⟨he, hc, hf⟩, if_pos ⟨he, hc, hf⟩] at h
        have hb := bits_div he
        have hs := size_bd hb hc hf
        refine callS_walk tt_ok Try.func17 rfl (by kernel_rfl) ?_
        conv => whnf
        repeat' ((conv => whnf); first | (apply refBits_t; (· assumption)) | (apply chan_t; (· assumption)) | (apply drawS_auto mixed tt_ok; (· kernel_rfl)) | apply zZ | apply yA | apply yB | ((first | apply zA | apply zC | apply zE | apply zG); (· assumption)) | ((first | apply zB | apply zD | apply zF | apply zH); (· assumption)) | apply zM | apply zN | apply zO | apply zP | apply zQ | apply zR | apply zS | apply zT | apply zU | (apply zV; (· omega)) | (apply zW; (· omega)) | (apply zX; (· (first | omega | (dsimp only; omega)))) | (apply zY; (try (apply zY; apply zX; (· omega))); apply zX; (· omega); apply zX; (· (first | omega | (dsimp only; omega)))) | ((first | apply zA | apply zC | apply zE | apply zG); (· omega)) | ((first | apply zB | apply zD | apply zF | apply zH); (· omega)) | ((first | apply zI | apply zK); (· assumption)) | ((first | apply zJ | apply zL); (· assumption)) | fail)
        conv => whnf
        exact h
      · rw [if_neg (fun hh => hf hh.2.2), if_neg (fun hh => hf hh.2.2)] at h
        by_cases h1 : f < 0
        · skip
          refine callS_walk tt_ok Try.func17 rfl (by kernel_rfl) ?_
          conv => whnf
          repeat' ((conv => whnf); first | (apply refBits_t; (· assumption)) | (apply chan_t; (· assumption)) | (apply drawS_auto mixed tt_ok; (· kernel_rfl)) | apply zZ | apply yA | apply yB | ((first | apply zA | apply zC | apply zE | apply zG); (· assumption)) | ((first | apply zB | apply zD | apply zF | apply zH); (· assumption)) | apply zM | apply zN | apply zO | apply zP | apply zQ | apply zR | apply zS | apply zT | apply zU | (apply zV; (· omega)) | (apply zW; (· omega)) | (apply zX; (· (first | omega | (dsimp only; omega)))) | (apply zY; (try (apply zY; apply zX; (· omega))); apply zX; (· omega); apply zX; (· (first | omega | (dsimp only; omega)))) | ((first | apply zA | apply zC | apply zE | apply zG); (· omega)) | ((first | apply zB | apply zD | apply zF | apply zH); (· omega)) | ((first | apply zI | apply zK); (· assumption)) | ((first | apply zJ | apply zL); (· assumption)) | fail)
          conv => whnf
          exact h
        · have h2 : 4096 < f := by omega
          refine callS_walk tt_ok Try.func17 rfl (by kernel_rfl) ?_
          conv => whnf
          repeat' ((conv => whnf); first | (apply refBits_t; (· assumption)) | (apply chan_t; (· assumption)) | (apply drawS_auto mixed tt_ok; (· kernel_rfl)) | apply zZ | apply yA | apply yB | ((first | apply zA | apply zC | apply zE | apply zG); (· assumption)) | ((first | apply zB | apply zD | apply zF | apply zH); (· assumption)) | apply zM | apply zN | apply zO | apply zP | apply zQ | apply zR | apply zS | apply zT | apply zU | (apply zV; (· omega)) | (apply zW; (· omega)) | (apply zX; (· (first | omega | (dsimp only; omega)))) | (apply zY; (try (apply zY; apply zX; (· omega))); apply zX; (· omega); apply zX; (· (first | omega | (dsimp only; omega)))) | ((first | apply zA | apply zC | apply zE | apply zG); (· omega)) | ((first | apply zB | apply zD | apply zF | apply zH); (· omega)) | ((first | apply zI | apply zK); (· assumption)) | ((first | apply zJ | apply zL); (· assumption)) | fail)
          conv => whnf
          exact h
    · rw [if_neg (fun hh => hc hh.2.1), if_neg (fun hh => hc hh.2.1)] at h
      refine callS_walk tt_ok Try.func17 rfl (by kernel_rfl) ?_
      conv => whnf
      repeat' ((conv => whnf); first | (apply refBits_t; (· assumption)) | (apply chan_f; (· assumption)) | (apply drawS_auto mixed tt_ok; (· kernel_rfl)) | apply zZ | apply yA | apply yB | ((first | apply zA | apply zC | apply zE | apply zG); (· assumption)) | ((first | apply zB | apply zD | apply zF | apply zH); (· assumption)) | apply zM | apply zN | apply zO | apply zP | apply zQ | apply zR | apply zS | apply zT | apply zU | (apply zV; (· omega)) | (apply zW; (· omega)) | (apply zX; (· (first | omega | (dsimp only; omega)))) | (apply zY; (try (apply zY; apply zX; (· omega))); apply zX; (· omega); apply zX; (· (first | omega | (dsimp only; omega)))) | ((first | apply zA | apply zC | apply zE | apply zG); (· omega)) | ((first | apply zB | apply zD | apply zF | apply zH); (· omega)) | ((first | apply zI | apply zK); (· assumption)) | ((first | apply zJ | apply zL); (· assumption)) | fail)
      conv => whnf
      exact h
  · rw [if_neg (fun hh => he hh.1), if_neg (fun hh => he hh.1)] at h
    refine callS_walk tt_ok Try.func17 rfl (by kernel_rfl) ?_
    conv => whnf
    repeat' ((conv => whnf); first | (apply refBits_f; (· assumption)) | (apply drawS_auto mixed tt_ok; (· kernel_rfl)) | apply zZ | apply yA | apply yB | ((first | apply zA | apply zC | apply zE | apply zG); (· assumption)) | ((first | apply zB | apply zD | apply zF | apply zH); (· assumption)) | apply zM | apply zN | apply zO | apply zP | apply zQ | apply zR | apply zS | apply zT | apply zU | (apply zV; (· omega)) | (apply zW; (· omega)) | (apply zX; (· (first | omega | (dsimp only; omega)))) | (apply zY; (try (apply zY; apply zX; (· omega))); apply zX; (· omega); apply zX; (· (first | omega | (dsimp only; omega)))) | ((first | apply zA | apply zC | apply zE | apply zG); (· omega)) | ((first | apply zB | apply zD | apply zF | apply zH); (· omega)) | ((first | apply zI | apply zK); (· assumption)) | ((first | apply zJ | apply zL); (· assumption)) | fail)
    conv => whnf
    exact h
theorem levels_law {e n c f : Int} {H : AHeap} : ACall P 3 [iv e, iv n, iv c, iv f] H (fun e _ => e = .returned (.bool true)) := by
  refine acall_walk tt_ok Try.func3 rfl ?_
  conv => whnf
  repeat' ((conv => whnf); first | refine bits1_c (fun H1 => ?_) | (apply bits2_c) | refine level1_c (fun H2 => ?_) | (apply level2_c) | refine sample1_c (fun H3 => ?_) | (apply sample2_c) | refine size1_c (fun H4 => ?_) | (apply size2_c) | (apply awake_c) | (apply drawS_auto mixed tt_ok; (· kernel_rfl)) | apply zZ | apply yA | apply yB | ((first | apply zA | apply zC | apply zE | apply zG); (· assumption)) | ((first | apply zB | apply zD | apply zF | apply zH); (· assumption)) | apply zM | apply zN | apply zO | apply zP | apply zQ | apply zR | apply zS | apply zT | apply zU | (apply zV; (· omega)) | (apply zW; (· omega)) | (apply zX; (· (first | omega | (dsimp only; omega)))) | (apply zY; (try (apply zY; apply zX; (· omega))); apply zX; (· omega); apply zX; (· (first | omega | (dsimp only; omega)))) | ((first | apply zA | apply zC | apply zE | apply zG); (· omega)) | ((first | apply zB | apply zD | apply zF | apply zH); (· omega)) | ((first | apply zI | apply zK); (· assumption)) | ((first | apply zJ | apply zL); (· assumption)) | fail)
  conv => whnf
theorem sampleLevels_acall {DH : Type} (ds : List (DataW DH)) (H : AHeap) (vs : List Value) (h : ReadsArgs tt H [3, 3, 3, 3] vs ds) : ACall P 3 vs H (fun e _ => e = .returned (.bool true)) := by
  obtain ⟨v, vs, d, ds, rfl, rfl, h1, h⟩ := readsArgs_cons h
  obtain ⟨v, vs, d, ds, rfl, rfl, h2, h⟩ := readsArgs_cons h
  obtain ⟨v, vs, d, ds, rfl, rfl, h3, h⟩ := readsArgs_cons h
  obtain ⟨v, vs, d, ds, rfl, rfl, h4, h⟩ := readsArgs_cons h
  cases readsArgs_nil h
  obtain ⟨a, rfl, _⟩ := arg_int h1 rfl
  obtain ⟨b, rfl, _⟩ := arg_int h2 rfl
  obtain ⟨c, rfl, _⟩ := arg_int h3 rfl
  obtain ⟨d, rfl, _⟩ := arg_int h4 rfl
  exact levels_law
theorem sampleLevels_lifted (os : Os) (started : os.Started) (DH : Type) (enc : TypeId × Value → DH) :
    ReturnsInHanded {} Try.checked os 3 .any (Rows.sampleLevelsSpec.pre6 enc Try.prog Try.f3 [] false) (Rows.sampleLevelsSpec.post enc Try.prog Try.f3 false true false false) :=
  law_returns (C := Try.checked) (m := 12) Try.own2 started (by kernel_rfl) Try.func3
    (ChangeSpec.witness6 (enc := enc) (C := Try.checked) false ⟨#[], #[.int .i64 0, .int .i64 0, .int .i64 0, .int .i64 0], []⟩ 8 (by kernel_rfl) (by kernel_rfl) (by kernel_rfl) (by kernel_rfl))
    tt_ok (by kernel_rfl) rfl (by kernel_rfl) rfl (by kernel_rfl)
    (fun ds hl => by match ds, hl with | [d0, d1, d2, d3], _ => exact ⟨rfl, rfl, rfl⟩)
    (fun ds H vs hs h => sampleLevels_acall ds H vs h)
theorem sampleLevels_holds : Rows.SampleLevelsSaid :=
  OpenClaim.holds_of_wide 3 Try.f3 rfl rfl rfl rfl rfl rfl rfl ⟨rfl, rfl, rfl, rfl, rfl⟩ rfl rfl rfl rfl rfl (by kernel_rfl) Try.func3 (by kernel_rfl)
    (of_decide_eq_true (by kernel_rfl)) (by unfold Func.isWrapper; rw [if_neg (by decide +kernel)]; exact ⟨rfl, rfl⟩)
    (fun os started H enc _ => sampleLevels_lifted os started H enc)
end Go.Abs
namespace Go.Proofs.Ythjmijjppaebgaa
theorem sampleLevelsProved : Rows.SampleLevelsSaid := Go.Abs.sampleLevels_holds
end Go.Proofs.Ythjmijjppaebgaa
