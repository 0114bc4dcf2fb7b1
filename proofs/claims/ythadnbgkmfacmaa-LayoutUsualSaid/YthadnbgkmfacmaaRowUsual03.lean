/- The statement LayoutUsual is proved: for every input the law returns true and its arguments read as before; no conditions. -/
import Derived.Test.YthadnbgkmfacmaaM03
import Derived.Test.YthadnbgkmfacmaaRows
set_option linter.all false
set_option maxHeartbeats 1000000
set_option maxRecDepth 20000
namespace Go.Abs
open Go Go.Proofs Go.Proofs.Ythadnbgkmfacmaa Go.ChangeAt Go.RowKit Go.ChangeShapes Go.WideShapes
theorem Try.own2 : ownKnob Try.prog.godebug = none := by kernel_rfl
theorem awake_c {H : AHeap} {K : CK} (h : K (.returned (.bool true)) H) : callS P (fnV 10) [] H K :=
  callS_closed mixed tt_ok (n := 60) (by kernel_rfl) h
def usualL : Nat → List Int
  | 1 => [1]
  | 2 => [2, 3]
  | 3 => [2, 3, 4]
  | 4 => [2, 3, 6, 7]
  | 5 => [2, 3, 4, 6, 7]
  | 6 => [2, 3, 4, 5, 6, 7]
  | 7 => [2, 3, 4, 5, 6, 7, 10]
  | _ => [2, 3, 4, 5, 6, 7, 8, 9]
abbrev chan (n : Int) : Prop := 1 ≤ n ∧ n ≤ 8
def usV (n : Int) : List Int := if chan n then usualL n.toNat else []
def usE (n : Int) : Int := if chan n then 0 else 7
theorem usual_bd (n : Nat) : (usualL n).length ≤ maxN ∧ ∀ x ∈ usualL n, inR x := by
  unfold usualL
  split <;> simp [maxN, inR]
theorem chan_cases {n : Int} (h : chan n) : n = 1 ∨ n = 2 ∨ n = 3 ∨ n = 4 ∨ n = 5 ∨ n = 6 ∨ n = 7 ∨ n = 8 := by omega
theorem usual1_c {n : Int} {H : AHeap} {K : CK} (h : ∀ H' p c, H.le H' → Row H' p (usV n) → K (.returned (.tuple #[.slice p (usV n).length c, iv (usE n)])) H') : callS P (fnV 30) [iv n] H K := by
  unfold usV usE at h
  by_cases hn : chan n
  · rw [if_pos hn, if_pos hn] at h
    refine callS_post ?_
    rcases chan_cases hn with rfl | rfl | rfl | rfl | rfl | rfl | rfl | rfl
    · skip
      refine callS_walk tt_ok Try.func30 rfl (by kernel_rfl) ?_
      conv => whnf
      repeat' ((conv => whnf); first | ((first | (apply vB; (case h => assumption)) | (apply vA; (case h => assumption)) | (apply vC; (case h => assumption))); (case hk => exact kpA); (case he => omega)) | ((first | (apply vI; (case h => assumption)) | (apply vG; (case h => assumption)) | (apply vK; (case h => assumption))); (case hk => exact kpA); (case he => omega); (case hp => omega); (case' g => intro hr_ hc_)) | ((first | (apply vJ; (case h => assumption)) | (apply vH; (case h => assumption)) | (apply vL; (case h => assumption))); (case hk => exact kpA); (case he => omega); (case' g => intro hr_ hc_)) | (apply drawS_auto mixed tt_ok; (· kernel_rfl)) | apply zZ | apply yA | apply yB | ((first | apply zA | apply zC | apply zE | apply zG); (· assumption)) | ((first | apply zB | apply zD | apply zF | apply zH); (· assumption)) | apply zM | apply zN | apply zO | apply zP | apply zQ | apply zR | apply zS | apply zT | apply zU | (apply zV; (· omega)) | (apply zW; (· omega)) | (apply zX; (· (first | omega | (dsimp only; omega)))) | (apply zY; (try (apply zY; apply zX; (· omega))); apply zX; (· omega); apply zX; (· (first | omega | (dsimp only; omega)))) | ((first | apply yJ | apply yK | apply yL | apply yM | apply yN | apply yO); (· exact hgA); (· exact hsA)) | ((first | apply zA | apply zC | apply zE | apply zG); (· omega)) | ((first | apply zB | apply zD | apply zF | apply zH); (· omega)) | ((first | apply zI | apply zK); (· assumption)) | ((first | apply zJ | apply zL); (· assumption)) | fail)
      conv => whnf
      exact ⟨_, HW.fz _ H.size, h _ _ _ (AHeap.le.fz leA (Nat.le_refl _)) (Row.fz hoA hoA hgA (usual_bd _).1 (usual_bd _).2)⟩
    · skip
      refine callS_walk tt_ok Try.func30 rfl (by kernel_rfl) ?_
      conv => whnf
      repeat' ((conv => whnf); first | ((first | (apply vB; (case h => assumption)) | (apply vA; (case h => assumption)) | (apply vC; (case h => assumption))); (case hk => exact kpA); (case he => omega)) | ((first | (apply vI; (case h => assumption)) | (apply vG; (case h => assumption)) | (apply vK; (case h => assumption))); (case hk => exact kpA); (case he => omega); (case hp => omega); (case' g => intro hr_ hc_)) | ((first | (apply vJ; (case h => assumption)) | (apply vH; (case h => assumption)) | (apply vL; (case h => assumption))); (case hk => exact kpA); (case he => omega); (case' g => intro hr_ hc_)) | (apply drawS_auto mixed tt_ok; (· kernel_rfl)) | apply zZ | apply yA | apply yB | ((first | apply zA | apply zC | apply zE | apply zG); (· assumption)) | ((first | apply zB | apply zD | apply zF | apply zH); (· assumption)) | apply zM | apply zN | apply zO | apply zP | apply zQ | apply zR | apply zS | apply zT | apply zU | (apply zV; (· omega)) | (apply zW; (· omega)) | (apply zX; (· (first | omega | (dsimp only; omega)))) | (apply zY; (try (apply zY; apply zX; (· omega))); apply zX; (· omega); apply zX; (· (first | omega | (dsimp only; omega)))) | ((first | apply yJ | apply yK | apply yL | apply yM | apply yN | apply yO); (· exact hgA); (· exact hsA)) | ((first | apply zA | apply zC | apply zE | apply zG); (· omega)) | ((first | apply zB | apply zD | apply zF | apply zH); (· omega)) | ((first | apply zI | apply zK); (· assumption)) | ((first | apply zJ | apply zL); (· assumption)) | fail)
      conv => whnf
      exact ⟨_, HW.fz _ H.size, h _ _ _ (AHeap.le.fz leA (Nat.le_refl _)) (Row.fz hoA hoA hgA (usual_bd _).1 (usual_bd _).2)⟩
    · skip
      refine callS_walk tt_ok Try.func30 rfl (by kernel_rfl) ?_
      conv => whnf
      repeat' ((conv => whnf); first | ((first | (apply vB; (case h => assumption)) | (apply vA; (case h => assumption)) | (apply vC; (case h => assumption))); (case hk => exact kpA); (case he => omega)) | ((first | (apply vI; (case h => assumption)) | (apply vG; (case h => assumption)) | (apply vK; (case h => assumption))); (case hk => exact kpA); (case he => omega); (case hp => omega); (case' g => intro hr_ hc_)) | ((first | (apply vJ; (case h => assumption)) | (apply vH; (case h => assumption)) | (apply vL; (case h => assumption))); (case hk => exact kpA); (case he => omega); (case' g => intro hr_ hc_)) | (apply drawS_auto mixed tt_ok; (· kernel_rfl)) | apply zZ | apply yA | apply yB | ((first | apply zA | apply zC | apply zE | apply zG); (· assumption)) | ((first | apply zB | apply zD | apply zF | apply zH); (· assumption)) | apply zM | apply zN | apply zO | apply zP | apply zQ | apply zR | apply zS | apply zT | apply zU | (apply zV; (· omega)) | (apply zW; (· omega)) | (apply zX; (· (first | omega | (dsimp only; omega)))) | (apply zY; (try (apply zY; apply zX; (· omega))); apply zX; (· omega); apply zX; (· (first | omega | (dsimp only; omega)))) | ((first | apply yJ | apply yK | apply yL | apply yM | apply yN | apply yO); (· exact hgA); (· exact hsA)) | ((first | apply zA | apply zC | apply zE | apply zG); (· omega)) | ((first | apply zB | apply zD | apply zF | apply zH); (· omega)) | ((first | apply zI | apply zK); (· assumption)) | ((first | apply zJ | apply zL); (· assumption)) | fail)
      conv => whnf
      exact ⟨_, HW.fz _ H.size, h _ _ _ (AHeap.le.fz leA (Nat.le_refl _)) (Row.fz hoA hoA hgA (usual_bd _).1 (usual_bd _).2)⟩
    · skip
      refine callS_walk tt_ok Try.func30 rfl (by kernel_rfl) ?_
      conv => whnf
      repeat' ((conv => whnf); first | ((first | (apply vB; (case h => assumption)) | (apply vA; (case h => assumption)) | (apply vC; (case h => assumption))); (case hk => exact kpA); (case he => omega)) | ((first | (apply vI; (case h => assumption)) | (apply vG; (case h => assumption)) | (apply vK; (case h => assumption))); (case hk => exact kpA); (case he => omega); (case hp => omega); (case' g => intro hr_ hc_)) | ((first | (apply vJ; (case h => assumption)) | (apply vH; (case h => assumption)) | (apply vL; (case h => assumption))); (case hk => exact kpA); (case he => omega); (case' g => intro hr_ hc_)) | (apply drawS_auto mixed tt_ok; (· kernel_rfl)) | apply zZ | apply yA | apply yB | ((first | apply zA | apply zC | apply zE | apply zG); (· assumption)) | ((first | apply zB | apply zD | apply zF | apply zH); (· assumption)) | apply zM | apply zN | apply zO | apply zP | apply zQ | apply zR | apply zS | apply zT | apply zU | (apply zV; (· omega)) | (apply zW; (· omega)) | (apply zX; (· (first | omega | (dsimp only; omega)))) | (apply zY; (try (apply zY; apply zX; (· omega))); apply zX; (· omega); apply zX; (· (first | omega | (dsimp only; omega)))) | ((first | apply yJ | apply yK | apply yL | apply yM | apply yN | apply yO); (· exact hgA); (· exact hsA)) | ((first | apply zA | apply zC | apply zE | apply zG); (· omega)) | ((first | apply zB | apply zD | apply zF | apply zH); (· omega)) | ((first | apply zI | apply zK); (· assumption)) | ((first | apply zJ | apply zL); (· assumption)) | fail)
      conv => whnf
      exact ⟨_, HW.fz _ H.size, h _ _ _ (AHeap.le.fz leA (Nat.le_refl _)) (Row.fz hoA hoA hgA (usual_bd _).1 (usual_bd _).2)⟩
    · skip
      refine callS_walk tt_ok Try.func30 rfl (by kernel_rfl) ?_
      conv => whnf
      repeat' ((conv => whnf); first | ((first | (apply vB; (case h => assumption)) | (apply vA; (case h => assumption)) | (apply vC; (case h => assumption))); (case hk => exact kpA); (case he => omega)) | ((first | (apply vI; (case h => assumption)) | (apply vG; (case h => assumption)) | (apply vK; (case h => assumption))); (case hk => exact kpA); (case he => omega); (case hp => omega); (case' g => intro hr_ hc_)) | ((first | (apply vJ; (case h => assumption)) | (apply vH; (case h => assumption)) | (apply vL; (case h => assumption))); (case hk => exact kpA); (case he => omega); (case' g => intro hr_ hc_)) | (apply drawS_auto mixed tt_ok; (· kernel_rfl)) | apply zZ | apply yA | apply yB | ((first | apply zA | apply zC | apply zE | apply zG); (· assumption)) | ((first | apply zB | apply zD | apply zF | apply zH); (· assumption)) | apply zM | apply zN | apply zO | apply zP | apply zQ | apply zR | apply zS | apply zT | apply zU | (apply zV; (· omega)) | (apply zW; (· omega)) | (apply zX; (· (first | omega | (dsimp only; omega)))) | (apply zY; (try (apply zY; apply zX; (· omega))); apply zX; (· omega); apply zX; (· (first | omega | (dsimp only; omega)))) | ((first | apply yJ | apply yK | apply yL | apply yM | apply yN | apply yO); (· exact hgA); (· exact hsA)) | ((first | apply zA | apply zC | apply zE | apply zG); (· omega)) | ((first | apply zB | apply zD | apply zF | apply zH); (· omega)) | ((first | apply zI | apply zK); (· assumption)) | ((first | apply zJ | apply zL); (· assumption)) | fail)
      conv => whnf
      exact ⟨_, HW.fz _ H.size, h _ _ _ (AHeap.le.fz leA (Nat.le_refl _)) (Row.fz hoA hoA hgA (usual_bd _).1 (usual_bd _).2)⟩
    · skip
      refine callS_walk tt_ok Try.func30 rfl (by kernel_rfl) ?_
      conv => whnf
      repeat' ((conv => whnf); first | ((first | (apply vB; (case h => assumption)) | (apply vA; (case h => assumption)) | (apply vC; (case h => assumption))); (case hk => exact kpA); (case he => omega)) | ((first | (apply vI; (case h => assumption)) | (apply vG; (case h => assumption)) | (apply vK; (case h => assumption))); (case hk => exact kpA); (case he => omega); (case hp => omega); (case' g => intro hr_ hc_)) | ((first | (apply vJ; (case h => assumption)) | (apply vH; (case h => assumption)) | (apply vL; (case h => assumption))); (case hk => exact kpA); (case he => omega); (case' g => intro hr_ hc_)) | (apply drawS_auto mixed tt_ok; (· kernel_rfl)) | apply zZ | apply yA | apply yB | ((first | apply zA | apply zC | apply zE | apply zG); (· assumption)) | ((first | apply zB | apply zD | apply zF | apply zH); (· assumption)) | apply zM | apply zN | apply zO | apply zP | apply zQ | apply zR | apply zS | apply zT | apply zU | (apply zV; (· omega)) | (apply zW; (· omega)) | (apply zX; (· (first | omega | (dsimp only; omega)))) | (apply zY; (try (apply zY; apply zX; (· omega))); apply zX; (· omega); apply zX; (· (first | omega | (dsimp only; omega)))) | ((first | apply yJ | apply yK | apply yL | apply yM | apply yN | apply yO); (· exact hgA); (· exact hsA)) | ((first | apply zA | apply zC | apply zE | apply zG); (· omega)) | ((first | apply zB | apply zD | apply zF | apply zH); (· omega)) | ((first | apply zI | apply zK); (· assumption)) | ((first | apply zJ | apply zL); (· assumption)) | fail)
      conv => whnf
      exact ⟨_, HW.fz _ H.size, h _ _ _ (AHeap.le.fz leA (Nat.le_refl _)) (Row.fz hoA hoA hgA (usual_bd _).1 (usual_bd _).2)⟩
    · skip
      refine callS_walk tt_ok Try.func30 rfl (by kernel_rfl) ?_
      conv => whnf
      repeat' ((conv => whnf); first | ((first | (apply vB; (case h => assumption)) | (apply vA; (case h => assumption)) | (apply vC; (case h => assumption))); (case hk => exact kpA); (case he => omega)) | ((first | (apply vI; (case h => assumption)) | (apply vG; (case h => assumption)) | (apply vK; (case h => assumption))); (case hk => exact kpA); (case he => omega); (case hp => omega); (case' g => intro hr_ hc_)) | ((first | (apply vJ; (case h => assumption)) | (apply vH; (case h => assumption)) | (apply vL; (case h => assumption))); (case hk => exact kpA); (case he => omega); (case' g => intro hr_ hc_)) | (apply drawS_auto mixed tt_ok; (· kernel_rfl)) | apply zZ | apply yA | apply yB | ((first | apply zA | apply zC | apply zE | apply zG); (· assumption)) | ((first | apply zB | apply zD | apply zF | apply zH); (· assumption)) | apply zM | apply zN | apply zO | apply zP | apply zQ | apply zR | apply zS | apply zT | apply zU | (apply zV; (· omega)) | (apply zW; (· omega)) | (apply zX; (· (first | omega | (dsimp only; omega)))) | (apply zY; (try (apply zY; apply zX; (· omega))); apply zX; (· omega); apply zX; (· (first | omega | (dsimp only; omega)))) | ((first | apply yJ | apply yK | apply yL | apply yM | apply yN | apply yO); (· exact hgA); (· exact hsA)) | ((first | apply zA | apply zC | apply zE | apply zG); (· omega)) | ((first | apply zB | apply zD | apply zF | apply zH); (· omega)) | ((first | apply zI | apply zK); (· assumption)) | ((first | apply zJ | apply zL); (· assumption)) | fail)
      conv => whnf
      exact ⟨_, HW.fz _ H.size, h _ _ _ (AHeap.le.fz leA (Nat.le_refl _)) (Row.fz hoA hoA hgA (usual_bd _).1 (usual_bd _).2)⟩
    · skip
      refine callS_walk tt_ok Try.func30 rfl (by kernel_rfl) ?_
      conv => whnf
      repeat' ((conv => whnf); first | ((first | (apply vB; (case h => assumption)) | (apply vA; (case h => assumption)) | (apply vC; (case h => assumption))); (case hk => exact kpA); (case he => omega)) | ((first | (apply vI; (case h => assumption)) | (apply vG; (case h => assumption)) | (apply vK; (case h => assumption))); (case hk => exact kpA); (case he => omega); (case hp => omega); (case' g => intro hr_ hc_)) | ((first | (apply vJ; (case h => assumption)) | (apply vH; (case h => assumption)) | (apply vL; (case h => assumption))); (case hk => exact kpA); (case he => omega); (case' g => intro hr_ hc_)) | (apply drawS_auto mixed tt_ok; (· kernel_rfl)) | apply zZ | apply yA | apply yB | ((first | apply zA | apply zC | apply zE | apply zG); (· assumption)) | ((first | apply zB | apply zD | apply zF | apply zH); (· assumption)) | apply zM | apply zN | apply zO | apply zP | apply zQ | apply zR | apply zS | apply zT | apply zU | (apply zV; (· omega)) | (apply zW; (· omega)) | (apply zX; (· (first | omega | (dsimp only; omega)))) | (apply zY; (try (apply zY; apply zX; (· omega))); apply zX; (· omega); apply zX; (· (first | omega | (dsimp only; omega)))) | ((first | apply yJ | apply yK | apply yL | apply yM | apply yN | apply yO); (· exact hgA); (· exact hsA)) | ((first | apply zA | apply zC | apply zE | apply zG); (· omega)) | ((first | apply zB | apply zD | apply zF | apply zH); (· omega)) | ((first | apply zI | apply zK); (· assumption)) | ((first | apply zJ | apply zL); (· assumption)) | fail)
      conv => whnf
      exact ⟨_, HW.fz _ H.size, h _ _ _ (AHeap.le.fz leA (Nat.le_refl _)) (Row.fz hoA hoA hgA (usual_bd _).1 (usual_bd _).2)⟩
  · rw [if_neg hn, if_neg hn] at h
    by_cases h1 : n < 1
    · skip
      refine callS_walk tt_ok Try.func30 rfl (by kernel_rfl) ?_
      conv => whnf
      repeat' ((conv => whnf); first | ((first | (apply vB; (case h => assumption)) | (apply vA; (case h => assumption)) | (apply vC; (case h => assumption))); (case hk => exact kpA); (case he => omega)) | ((first | (apply vI; (case h => assumption)) | (apply vG; (case h => assumption)) | (apply vK; (case h => assumption))); (case hk => exact kpA); (case he => omega); (case hp => omega); (case' g => intro hr_ hc_)) | ((first | (apply vJ; (case h => assumption)) | (apply vH; (case h => assumption)) | (apply vL; (case h => assumption))); (case hk => exact kpA); (case he => omega); (case' g => intro hr_ hc_)) | (apply drawS_auto mixed tt_ok; (· kernel_rfl)) | apply zZ | apply yA | apply yB | ((first | apply zA | apply zC | apply zE | apply zG); (· assumption)) | ((first | apply zB | apply zD | apply zF | apply zH); (· assumption)) | apply zM | apply zN | apply zO | apply zP | apply zQ | apply zR | apply zS | apply zT | apply zU | (apply zV; (· omega)) | (apply zW; (· omega)) | (apply zX; (· (first | omega | (dsimp only; omega)))) | (apply zY; (try (apply zY; apply zX; (· omega))); apply zX; (· omega); apply zX; (· (first | omega | (dsimp only; omega)))) | ((first | apply yJ | apply yK | apply yL | apply yM | apply yN | apply yO); (· exact hgA); (· exact hsA)) | ((first | apply zA | apply zC | apply zE | apply zG); (· omega)) | ((first | apply zB | apply zD | apply zF | apply zH); (· omega)) | ((first | apply zI | apply zK); (· assumption)) | ((first | apply zJ | apply zL); (· assumption)) | fail)
      conv => whnf
      exact h _ none _ (AHeap.le.refl _) .nil
    · have h2 : 8 < n := by omega
      refine callS_walk tt_ok Try.func30 rfl (by kernel_rfl) ?_
      conv => whnf
      repeat' ((conv => whnf); first | ((first | (apply vB; (case h => assumption)) | (apply vA; (case h => assumption)) | (apply vC; (case h => assumption))); (case hk => exact kpA); (case he => omega)) | ((first | (apply vI; (case h => assumption)) | (apply vG; (case h => assumption)) | (apply vK; (case h => assumption))); (case hk => exact kpA); (case he => omega); (case hp => omega); (case' g => intro hr_ hc_)) | ((first | (apply vJ; (case h => assumption)) | (apply vH; (case h => assumption)) | (apply vL; (case h => assumption))); (case hk => exact kpA); (case he => omega); (case' g => intro hr_ hc_)) | (apply drawS_auto mixed tt_ok; (· kernel_rfl)) | apply zZ | apply yA | apply yB | ((first | apply zA | apply zC | apply zE | apply zG); (· assumption)) | ((first | apply zB | apply zD | apply zF | apply zH); (· assumption)) | apply zM | apply zN | apply zO | apply zP | apply zQ | apply zR | apply zS | apply zT | apply zU | (apply zV; (· omega)) | (apply zW; (· omega)) | (apply zX; (· (first | omega | (dsimp only; omega)))) | (apply zY; (try (apply zY; apply zX; (· omega))); apply zX; (· omega); apply zX; (· (first | omega | (dsimp only; omega)))) | ((first | apply yJ | apply yK | apply yL | apply yM | apply yN | apply yO); (· exact hgA); (· exact hsA)) | ((first | apply zA | apply zC | apply zE | apply zG); (· omega)) | ((first | apply zB | apply zD | apply zF | apply zH); (· omega)) | ((first | apply zI | apply zK); (· assumption)) | ((first | apply zJ | apply zL); (· assumption)) | fail)
      conv => whnf
      exact h _ none _ (AHeap.le.refl _) .nil
theorem usual2_c {n : Int} {H : AHeap} {K : CK} (h : ∀ H' p c, H.le H' → Row H' p (usV n) → K (.returned (.tuple #[.slice p (usV n).length c, iv (usE n)])) H') : callS P (fnV 31) [iv n] H K := by
  unfold usV usE at h
  by_cases hn : chan n
  · rw [if_pos hn, if_pos hn] at h
    refine callS_post ?_
    rcases chan_cases hn with rfl | rfl | rfl | rfl | rfl | rfl | rfl | rfl
    · skip
      refine callS_walk tt_ok Try.func31 rfl (by kernel_rfl) ?_
      conv => whnf
      repeat' ((conv => whnf); first | apply yA | apply yB | ((first | apply zA | apply zC | apply zE | apply zG); (· assumption)) | ((first | apply zB | apply zD | apply zF | apply zH); (· assumption)) | apply zM | apply zN | apply zO | apply zP | apply zQ | apply zR | apply zS | apply zT | apply zU | (apply zV; (· omega)) | (apply zW; (· omega)) | (apply zX; (· (first | omega | (dsimp only; omega)))) | (apply zY; (try (apply zY; apply zX; (· omega))); apply zX; (· omega); apply zX; (· (first | omega | (dsimp only; omega)))) | ((first | apply yJ | apply yK | apply yL | apply yM | apply yN | apply yO); (· exact hgA); (· exact hsA)) | ((first | apply zA | apply zC | apply zE | apply zG); (· omega)) | ((first | apply zB | apply zD | apply zF | apply zH); (· omega)) | ((first | apply zI | apply zK); (· assumption)) | ((first | apply zJ | apply zL); (· assumption)) | fail)
      conv => whnf
      exact ⟨_, HW.fz _ H.size, h _ _ _ (AHeap.le.fz leA (Nat.le_refl _)) (Row.fz hoA hoA hgA (usual_bd _).1 (usual_bd _).2)⟩
    · skip
      refine callS_walk tt_ok Try.func31 rfl (by kernel_rfl) ?_
      conv => whnf
      repeat' ((conv => whnf); first | apply yA | apply yB | ((first | apply zA | apply zC | apply zE | apply zG); (· assumption)) | ((first | apply zB | apply zD | apply zF | apply zH); (· assumption)) | apply zM | apply zN | apply zO | apply zP | apply zQ | apply zR | apply zS | apply zT | apply zU | (apply zV; (· omega)) | (apply zW; (· omega)) | (apply zX; (· (first | omega | (dsimp only; omega)))) | (apply zY; (try (apply zY; apply zX; (· omega))); apply zX; (· omega); apply zX; (· (first | omega | (dsimp only; omega)))) | ((first | apply yJ | apply yK | apply yL | apply yM | apply yN | apply yO); (· exact hgA); (· exact hsA)) | ((first | apply zA | apply zC | apply zE | apply zG); (· omega)) | ((first | apply zB | apply zD | apply zF | apply zH); (· omega)) | ((first | apply zI | apply zK); (· assumption)) | ((first | apply zJ | apply zL); (· assumption)) | fail)
      conv => whnf
      exact ⟨_, HW.fz _ H.size, h _ _ _ (AHeap.le.fz leA (Nat.le_refl _)) (Row.fz hoA hoA hgA (usual_bd _).1 (usual_bd _).2)⟩
    · skip
      refine callS_walk tt_ok Try.func31 rfl (by kernel_rfl) ?_
      conv => whnf
      repeat' ((conv => whnf); first | apply yA | apply yB | ((first | apply zA | apply zC | apply zE | apply zG); (· assumption)) | ((first | apply zB | apply zD | apply zF | apply zH); (· assumption)) | apply zM | apply zN | apply zO | apply zP | apply zQ | apply zR | apply zS | apply zT | apply zU | (apply zV; (· omega)) | (apply zW; (· omega)) | (apply zX; (· (first | omega | (dsimp only; omega)))) | (apply zY; (try (apply zY; apply zX; (· omega))); apply zX; (· omega); apply zX; (· (first | omega | (dsimp only; omega)))) | ((first | apply yJ | apply yK | apply yL | apply yM | apply yN | apply yO); (· exact hgA); (· exact hsA)) | ((first | apply zA | apply zC | apply zE | apply zG); (· omega)) | ((first | apply zB | apply zD | apply zF | apply zH); (· omega)) | ((first | apply zI | apply zK); (· assumption)) | ((first | apply zJ | apply zL); (· assumption)) | fail)
      conv => whnf
      exact ⟨_, HW.fz _ H.size, h _ _ _ (AHeap.le.fz leA (Nat.le_refl _)) (Row.fz hoA hoA hgA (usual_bd _).1 (usual_bd _).2)⟩
    · skip
      refine callS_walk tt_ok Try.func31 rfl (by kernel_rfl) ?_
      conv => whnf
      repeat' ((conv => whnf); first | apply yA | apply yB | ((first | apply zA | apply zC | apply zE | apply zG); (· assumption)) | ((first | apply zB | apply zD | apply zF | apply zH); (· assumption)) | apply zM | apply zN | apply zO | apply zP | apply zQ | apply zR | apply zS | apply zT | apply zU | (apply zV; (· omega)) | (apply zW; (· omega)) | (apply zX; (· (first | omega | (dsimp only; omega)))) | (apply zY; (try (apply zY; apply zX; (· omega))); apply zX; (· omega); apply zX; (· (first | omega | (dsimp only; omega)))) | ((first | apply yJ | apply yK | apply yL | apply yM | apply yN | apply yO); (· exact hgA); (· exact hsA)) | ((first | apply zA | apply zC | apply zE | apply zG); (· omega)) | ((first | apply zB | apply zD | apply zF | apply zH); (· omega)) | ((first | apply zI | apply zK); (· assumption)) | ((first | apply zJ | apply zL); (· assumption)) | fail)
      conv => whnf
      exact ⟨_, HW.fz _ H.size, h _ _ _ (AHeap.le.fz leA (Nat.le_refl _)) (Row.fz hoA hoA hgA (usual_bd _).1 (usual_bd _).2)⟩
    · skip
      refine callS_walk tt_ok Try.func31 rfl (by kernel_rfl) ?_
      conv => whnf
      repeat' ((conv => whnf); first | apply yA | apply yB | ((first | apply zA | apply zC | apply zE | apply zG); (· assumption)) | ((first | apply zB | apply zD | apply zF | apply zH); (· assumption)) | apply zM | apply zN | apply zO | apply zP | apply zQ | apply zR | apply zS | apply zT | apply zU | (apply zV; (· omega)) | (apply zW; (· omega)) | (apply zX; (· (first | omega | (dsimp only; omega)))) | (apply zY; (try (apply zY; apply zX; (· omega))); apply zX; (· omega); apply zX; (· (first | omega | (dsimp only; omega)))) | ((first | apply yJ | apply yK | apply yL | apply yM | apply yN | apply yO); (· exact hgA); (· exact hsA)) | ((first | apply zA | apply zC | apply zE | apply zG); (· omega)) | ((first | apply zB | apply zD | apply zF | apply zH); (· omega)) | ((first | apply zI | apply zK); (· assumption)) | ((first | apply zJ | apply zL); (· assumption)) | fail)
      conv => whnf
      exact ⟨_, HW.fz _ H.size, h _ _ _ (AHeap.le.fz leA (Nat.le_refl _)) (Row.fz hoA hoA hgA (usual_bd _).1 (usual_bd _).2)⟩
    · skip
      refine callS_walk tt_ok Try.func31 rfl (by kernel_rfl) ?_
      conv => whnf
      repeat' ((conv => whnf); first | apply yA | apply yB | ((first | apply zA | apply zC | apply zE | apply zG); (· assumption)) | ((first | apply zB | apply zD | apply zF | apply zH); (· assumption)) | apply zM | apply zN | apply zO | apply zP | apply zQ | apply zR | apply zS | apply zT | apply zU | (apply zV; (· omega)) | (apply zW; (· omega)) | (apply zX; (· (first | omega | (dsimp only; omega)))) | (apply zY; (try (apply zY; apply zX; (· omega))); apply zX; (· omega); apply zX; (· (first | omega | (dsimp only; omega)))) | ((first | apply yJ | apply yK | apply yL | apply yM | apply yN | apply yO); (· exact hgA); (· exact hsA)) | ((first | apply zA | apply zC | apply zE | apply zG); (· omega)) | ((first | apply zB | apply zD | apply zF | apply zH); (· omega)) | ((first | apply zI | apply zK); (· assumption)) | ((first | apply zJ | apply zL); (· assumption)) | fail)
      conv => whnf
      exact ⟨_, HW.fz _ H.size, h _ _ _ (AHeap.le.fz leA (Nat.le_refl _)) (Row.fz hoA hoA hgA (usual_bd _).1 (usual_bd _).2)⟩
    · skip
      refine callS_walk tt_ok Try.func31 rfl (by kernel_rfl) ?_
      conv => whnf
      repeat' ((conv => whnf); first | apply yA | apply yB | ((first | apply zA | apply zC | apply zE | apply zG); (· assumption)) | ((first | apply zB | apply zD | apply zF | apply zH); (· assumption)) | apply zM | apply zN | apply zO | apply zP | apply zQ | apply zR | apply zS | apply zT | apply zU | (apply zV; (· omega)) | (apply zW; (· omega)) | (apply zX; (· (first | omega | (dsimp only; omega)))) | (apply zY; (try (apply zY; apply zX; (· omega))); apply zX; (· omega); apply zX; (· (first | omega | (dsimp only; omega)))) | ((first | apply yJ | apply yK | apply yL | apply yM | apply yN | apply yO); (· exact hgA); (· exact hsA)) | ((first | apply zA | apply zC | apply zE | apply zG); (· omega)) | ((first | apply zB | apply zD | apply zF | apply zH); (· omega)) | ((first | apply zI | apply zK); (· assumption)) | ((first | apply zJ | apply zL); (· assumption)) | fail)
      conv => whnf
      exact ⟨_, HW.fz _ H.size, h _ _ _ (AHeap.le.fz leA (Nat.le_refl _)) (Row.fz hoA hoA hgA (usual_bd _).1 (usual_bd _).2)⟩
    · skip
      refine callS_walk tt_ok Try.func31 rfl (by kernel_rfl) ?_
      conv => whnf
      repeat' ((conv => whnf); first | apply yA | apply yB | ((first | apply zA | apply zC | apply zE | apply zG); (· assumption)) | ((first | apply zB | apply zD | apply zF | apply zH); (· assumption)) | apply zM | apply zN | apply zO | apply zP | apply zQ | apply zR | apply zS | apply zT | apply zU | (apply zV; (· omega)) | (apply zW; (· omega)) | (apply zX; (· (first | omega | (dsimp only; omega)))) | (apply zY; (try (apply zY; apply zX; (· omega))); apply zX; (· omega); apply zX; (· (first | omega | (dsimp only; omega)))) | ((first | apply yJ | apply yK | apply yL | apply yM | apply yN | apply yO); (· exact hgA); (· exact hsA)) | ((first | apply zA | apply zC | apply zE | apply zG); (· omega)) | ((first | apply zB | apply zD | apply zF | apply zH); (· omega)) | ((first | apply zI | apply zK); (· assumption)) | ((first | apply zJ | apply zL); (· assumption)) | fail)
      conv => whnf
      exact ⟨_, HW.fz _ H.size, h _ _ _ (AHeap.le.fz leA (Nat.le_refl _)) (Row.fz hoA hoA hgA (usual_bd _).1 (usual_bd _).2)⟩
  · rw [if_neg hn, if_neg hn] at h
    refine callS_walk tt_ok Try.func31 rfl (by kernel_rfl) ?_
    conv => whnf
    repeat' ((conv => whnf); first | apply yA | apply yB | ((first | apply zA | apply zC | apply zE | apply zG); (· assumption)) | ((first | apply zB | apply zD | apply zF | apply zH); (· assumption)) | apply zM | apply zN | apply zO | apply zP | apply zQ | apply zR | apply zS | apply zT | apply zU | (apply zV; (· omega)) | (apply zW; (· omega)) | (apply zX; (· (first | omega | (dsimp only; omega)))) | (apply zY; (try (apply zY; apply zX; (· omega))); apply zX; (· omega); apply zX; (· (first | omega | (dsimp only; omega)))) | ((first | apply yJ | apply yK | apply yL | apply yM | apply yN | apply yO); (· exact hgA); (· exact hsA)) | ((first | apply zA | apply zC | apply zE | apply zG); (· omega)) | ((first | apply zB | apply zD | apply zF | apply zH); (· omega)) | ((first | apply zI | apply zK); (· assumption)) | ((first | apply zJ | apply zL); (· assumption)) | fail)
    conv => whnf
    exact h _ none _ (AHeap.le.refl _) .nil

def idF (i c : Nat) : Int := if i = c then 65536 else 0
def idV (n : Int) : List (List Int) := if chan n then matF idF n.toNat n.toNat else []
def idE (n : Int) : Int := if chan n then 0 else 7
theorem id_aux {k : Nat} (i c : Nat) : (if i = k ∧ c = k then 65536 else if i < k then idF i c else 0) = if i < k + 1 then idF i c else 0 := by
  unfold idF
  by_cases h : i = k
  · subst h
    by_cases hc : c = i
    · subst hc; simp
    · have : ¬ i = c := fun e => hc e.symm
      simp [hc, this]
  · by_cases h2 : i < k
    · have h3 : i < k + 1 := by omega
      simp [h, h2, h3]
    · have h3 : ¬ i < k + 1 := by omega
      simp [h, h2, h3]
theorem idF_bd (i c : Nat) : inR (idF i c) := by unfold idF inR; split <;> omega
theorem ident1_c {n : Int} {H : AHeap} {K : CK} (h : ∀ H' p c, H.le H' → Mat H' p (idV n) → K (.returned (.tuple #[.slice p (idV n).length c, iv (idE n)])) H') : callS P (fnV 32) [iv n] H K := by
  unfold idV idE at h
  by_cases hn : chan n
  · rw [if_pos hn, if_pos hn, matF_len] at h
    obtain ⟨N, rfl⟩ : ∃ N : Nat, n = N := ⟨n.toNat, by omega⟩
    rw [Int.toNat_natCast] at h
    refine callS_post ?_
    refine callS_walk tt_ok Try.func32 rfl (by kernel_rfl) ?_
    conv => whnf
    repeat' ((conv => whnf); first | refine empty_c (n := N) (m := N) (by omega) (fun H1 o rs hle hom => ?_) | ((first | (apply vB; (case h => assumption)) | (apply vA; (case h => assumption)) | (apply vC; (case h => assumption))); (case hk => exact kpA); (case he => omega)) | ((first | (apply vI; (case h => assumption)) | (apply vG; (case h => assumption)) | (apply vK; (case h => assumption))); (case hk => exact kpA); (case he => omega); (case hp => omega); (case' g => intro hr_ hc_)) | ((first | (apply vJ; (case h => assumption)) | (apply vH; (case h => assumption)) | (apply vL; (case h => assumption))); (case hk => exact kpA); (case he => omega); (case' g => intro hr_ hc_)) | (apply drawS_auto mixed tt_ok; (· kernel_rfl)) | apply zZ | apply yA | apply yB | ((first | apply zA | apply zC | apply zE | apply zG); (· assumption)) | ((first | apply zB | apply zD | apply zF | apply zH); (· assumption)) | apply zM | apply zN | apply zO | apply zP | apply zQ | apply zR | apply zS | apply zT | apply zU | (apply zV; (· omega)) | (apply zW; (· omega)) | (apply zX; (· (first | omega | (dsimp only; omega)))) | (apply zY; (try (apply zY; apply zX; (· omega))); apply zX; (· omega); apply zX; (· (first | omega | (dsimp only; omega)))) | ((first | apply yJ | apply yK | apply yL | apply yM | apply yN | apply yO); (· exact hgA); (· exact hsA)) | ((first | apply zA | apply zC | apply zE | apply zG); (· omega)) | ((first | apply zB | apply zD | apply zF | apply zH); (· omega)) | ((first | apply zI | apply zK); (· assumption)) | ((first | apply zJ | apply zL); (· assumption)) | fail)
    conv => whnf
    refine loopS_mask tt_ok (fun (k : Nat × AHeap) => [.w, .w, .w, .w, .k, .w, .w, .w, .w, .w, .w, .w, .w, .w, .w, .w, .k, .p (iv k.1), .w, .w, .w, .w, .w, .w, .w, .w, .w, .w]) (fun (k : Nat × AHeap) => k.2) (fun (k : Nat × AHeap) => k.1 ≤ N ∧ H.le k.2 ∧ OMat k.2 H.size o rs (matF (fun i c => if i < k.1 then idF i c else 0) N N) []) (fun (k : Nat × AHeap) => N - k.1) (⟨0, H1⟩) (⟨by omega, hle, hom.cast _ (fun i hi c hc => by simp)⟩) ?_ (fun k hk => ?_)
    · conv => whnf
      refine weakH_of (HW.refl _) ?_
      repeat' (first | exact WT.nil | refine WT.same ?_ | refine WT.drop ?_ | refine WT.int (by omega) ?_ | refine WT.eq (by assumption) ?_ | refine WT.bl (by first | assumption | (symm; assumption)) ?_ | refine WT.vv (by assumption) ?_)
    obtain ⟨k, H2⟩ := k
    obtain ⟨hk, hle2, hom2⟩ := hk
    dsimp only at hk hle2 hom2 ⊢
    by_cases hlt : k < N
    · skip
      repeat' ((conv => whnf); first | refine hom2.row hlt ?_ | refine hom2.put2 hlt hlt (fun i c => if i < k + 1 then idF i c else 0) (fun i hi c hc => ?_) (fun H3 hom3 hkp3 => ?_); exact id_aux i c | ((first | (apply vB; (case h => assumption)) | (apply vA; (case h => assumption)) | (apply vC; (case h => assumption))); (case hk => exact kpA); (case he => omega)) | ((first | (apply vI; (case h => assumption)) | (apply vG; (case h => assumption)) | (apply vK; (case h => assumption))); (case hk => exact kpA); (case he => omega); (case hp => omega); (case' g => intro hr_ hc_)) | ((first | (apply vJ; (case h => assumption)) | (apply vH; (case h => assumption)) | (apply vL; (case h => assumption))); (case hk => exact kpA); (case he => omega); (case' g => intro hr_ hc_)) | (apply drawS_auto mixed tt_ok; (· kernel_rfl)) | apply zZ | apply yA | apply yB | ((first | apply zA | apply zC | apply zE | apply zG); (· assumption)) | ((first | apply zB | apply zD | apply zF | apply zH); (· assumption)) | apply zM | apply zN | apply zO | apply zP | apply zQ | apply zR | apply zS | apply zT | apply zU | (apply zV; (· omega)) | (apply zW; (· omega)) | (apply zX; (· (first | omega | (dsimp only; omega)))) | (apply zY; (try (apply zY; apply zX; (· omega))); apply zX; (· omega); apply zX; (· (first | omega | (dsimp only; omega)))) | ((first | apply yJ | apply yK | apply yL | apply yM | apply yN | apply yO); (· exact hgA); (· exact hsA)) | ((first | apply zA | apply zC | apply zE | apply zG); (· omega)) | ((first | apply zB | apply zD | apply zF | apply zH); (· omega)) | ((first | apply zI | apply zK); (· assumption)) | ((first | apply zJ | apply zL); (· assumption)) | fail)
      conv => whnf
      apply Exists.intro (k + 1, H3)
      refine ⟨?inv, ?mu, ?wk⟩
      case wk =>
        conv => whnf
        refine weakH_of (HW.refl _) ?_
        repeat' (first | exact WT.nil | refine WT.same ?_ | refine WT.drop ?_ | refine WT.int (by omega) ?_ | refine WT.eq (by assumption) ?_ | refine WT.bl (by first | assumption | (symm; assumption)) ?_ | refine WT.vv (by assumption) ?_)
      case mu => first | omega | (dsimp only; omega)
      case inv => exact ⟨by omega, hkp3.le _ (by omega) hle2, hom3⟩
    · have hkn : k = N := by omega
      subst hkn
      repeat' ((conv => whnf); first | ((first | (apply vB; (case h => assumption)) | (apply vA; (case h => assumption)) | (apply vC; (case h => assumption))); (case hk => exact kpA); (case he => omega)) | ((first | (apply vI; (case h => assumption)) | (apply vG; (case h => assumption)) | (apply vK; (case h => assumption))); (case hk => exact kpA); (case he => omega); (case hp => omega); (case' g => intro hr_ hc_)) | ((first | (apply vJ; (case h => assumption)) | (apply vH; (case h => assumption)) | (apply vL; (case h => assumption))); (case hk => exact kpA); (case he => omega); (case' g => intro hr_ hc_)) | (apply drawS_auto mixed tt_ok; (· kernel_rfl)) | apply zZ | apply yA | apply yB | ((first | apply zA | apply zC | apply zE | apply zG); (· assumption)) | ((first | apply zB | apply zD | apply zF | apply zH); (· assumption)) | apply zM | apply zN | apply zO | apply zP | apply zQ | apply zR | apply zS | apply zT | apply zU | (apply zV; (· omega)) | (apply zW; (· omega)) | (apply zX; (· (first | omega | (dsimp only; omega)))) | (apply zY; (try (apply zY; apply zX; (· omega))); apply zX; (· omega); apply zX; (· (first | omega | (dsimp only; omega)))) | ((first | apply yJ | apply yK | apply yL | apply yM | apply yN | apply yO); (· exact hgA); (· exact hsA)) | ((first | apply zA | apply zC | apply zE | apply zG); (· omega)) | ((first | apply zB | apply zD | apply zF | apply zH); (· omega)) | ((first | apply zI | apply zK); (· assumption)) | ((first | apply zJ | apply zL); (· assumption)) | fail)
      conv => whnf
      have hom6 := hom2.cast idF (fun i hi c hc => by simp [hi])
      exact ⟨_, HW.fz _ H.size, h _ _ _ (AHeap.le.fz hle2 (Nat.le_refl _)) (hom6.fzF (by omega) (by unfold maxN; omega) (by unfold maxN; omega) (fun i _ c _ => idF_bd i c))⟩
  · rw [if_neg hn, if_neg hn] at h
    by_cases h1 : n < 1
    · skip
      refine callS_walk tt_ok Try.func32 rfl (by kernel_rfl) ?_
      conv => whnf
      repeat' ((conv => whnf); first | ((first | (apply vB; (case h => assumption)) | (apply vA; (case h => assumption)) | (apply vC; (case h => assumption))); (case hk => exact kpA); (case he => omega)) | ((first | (apply vI; (case h => assumption)) | (apply vG; (case h => assumption)) | (apply vK; (case h => assumption))); (case hk => exact kpA); (case he => omega); (case hp => omega); (case' g => intro hr_ hc_)) | ((first | (apply vJ; (case h => assumption)) | (apply vH; (case h => assumption)) | (apply vL; (case h => assumption))); (case hk => exact kpA); (case he => omega); (case' g => intro hr_ hc_)) | (apply drawS_auto mixed tt_ok; (· kernel_rfl)) | apply zZ | apply yA | apply yB | ((first | apply zA | apply zC | apply zE | apply zG); (· assumption)) | ((first | apply zB | apply zD | apply zF | apply zH); (· assumption)) | apply zM | apply zN | apply zO | apply zP | apply zQ | apply zR | apply zS | apply zT | apply zU | (apply zV; (· omega)) | (apply zW; (· omega)) | (apply zX; (· (first | omega | (dsimp only; omega)))) | (apply zY; (try (apply zY; apply zX; (· omega))); apply zX; (· omega); apply zX; (· (first | omega | (dsimp only; omega)))) | ((first | apply yJ | apply yK | apply yL | apply yM | apply yN | apply yO); (· exact hgA); (· exact hsA)) | ((first | apply zA | apply zC | apply zE | apply zG); (· omega)) | ((first | apply zB | apply zD | apply zF | apply zH); (· omega)) | ((first | apply zI | apply zK); (· assumption)) | ((first | apply zJ | apply zL); (· assumption)) | fail)
      conv => whnf
      exact h _ none _ (AHeap.le.refl _) .nil
    · have h2 : 8 < n := by omega
      refine callS_walk tt_ok Try.func32 rfl (by kernel_rfl) ?_
      conv => whnf
      repeat' ((conv => whnf); first | ((first | (apply vB; (case h => assumption)) | (apply vA; (case h => assumption)) | (apply vC; (case h => assumption))); (case hk => exact kpA); (case he => omega)) | ((first | (apply vI; (case h => assumption)) | (apply vG; (case h => assumption)) | (apply vK; (case h => assumption))); (case hk => exact kpA); (case he => omega); (case hp => omega); (case' g => intro hr_ hc_)) | ((first | (apply vJ; (case h => assumption)) | (apply vH; (case h => assumption)) | (apply vL; (case h => assumption))); (case hk => exact kpA); (case he => omega); (case' g => intro hr_ hc_)) | (apply drawS_auto mixed tt_ok; (· kernel_rfl)) | apply zZ | apply yA | apply yB | ((first | apply zA | apply zC | apply zE | apply zG); (· assumption)) | ((first | apply zB | apply zD | apply zF | apply zH); (· assumption)) | apply zM | apply zN | apply zO | apply zP | apply zQ | apply zR | apply zS | apply zT | apply zU | (apply zV; (· omega)) | (apply zW; (· omega)) | (apply zX; (· (first | omega | (dsimp only; omega)))) | (apply zY; (try (apply zY; apply zX; (· omega))); apply zX; (· omega); apply zX; (· (first | omega | (dsimp only; omega)))) | ((first | apply yJ | apply yK | apply yL | apply yM | apply yN | apply yO); (· exact hgA); (· exact hsA)) | ((first | apply zA | apply zC | apply zE | apply zG); (· omega)) | ((first | apply zB | apply zD | apply zF | apply zH); (· omega)) | ((first | apply zI | apply zK); (· assumption)) | ((first | apply zJ | apply zL); (· assumption)) | fail)
      conv => whnf
      exact h _ none _ (AHeap.le.refl _) .nil
theorem ident2_c {n : Int} {H : AHeap} {K : CK} (h : ∀ H' p c, H.le H' → Mat H' p (idV n) → K (.returned (.tuple #[.slice p (idV n).length c, iv (idE n)])) H') : callS P (fnV 33) [iv n] H K := by
  unfold idV idE at h
  by_cases hn : chan n
  · rw [if_pos hn, if_pos hn, matF_len] at h
    obtain ⟨N, rfl⟩ : ∃ N : Nat, n = N := ⟨n.toNat, by omega⟩
    rw [Int.toNat_natCast] at h
    refine callS_post ?_
    refine callS_walk tt_ok Try.func33 rfl (by kernel_rfl) ?_
    conv => whnf
    repeat' ((conv => whnf); first | refine nothingF_c (n := N) (m := N) ⟨by omega, by omega, by omega⟩ (fun H1 o rs hle hom => ?_) | ((first | (apply vB; (case h => assumption)) | (apply vA; (case h => assumption)) | (apply vC; (case h => assumption))); (case hk => exact kpA); (case he => omega)) | ((first | (apply vI; (case h => assumption)) | (apply vG; (case h => assumption)) | (apply vK; (case h => assumption))); (case hk => exact kpA); (case he => omega); (case hp => omega); (case' g => intro hr_ hc_)) | ((first | (apply vJ; (case h => assumption)) | (apply vH; (case h => assumption)) | (apply vL; (case h => assumption))); (case hk => exact kpA); (case he => omega); (case' g => intro hr_ hc_)) | (apply drawS_auto mixed tt_ok; (· kernel_rfl)) | apply zZ | apply yA | apply yB | ((first | apply zA | apply zC | apply zE | apply zG); (· assumption)) | ((first | apply zB | apply zD | apply zF | apply zH); (· assumption)) | apply zM | apply zN | apply zO | apply zP | apply zQ | apply zR | apply zS | apply zT | apply zU | (apply zV; (· omega)) | (apply zW; (· omega)) | (apply zX; (· (first | omega | (dsimp only; omega)))) | (apply zY; (try (apply zY; apply zX; (· omega))); apply zX; (· omega); apply zX; (· (first | omega | (dsimp only; omega)))) | ((first | apply yJ | apply yK | apply yL | apply yM | apply yN | apply yO); (· exact hgA); (· exact hsA)) | ((first | apply zA | apply zC | apply zE | apply zG); (· omega)) | ((first | apply zB | apply zD | apply zF | apply zH); (· omega)) | ((first | apply zI | apply zK); (· assumption)) | ((first | apply zJ | apply zL); (· assumption)) | fail)
    conv => whnf
    refine loopS_mask tt_ok (fun (k : Nat × AHeap) => [.k, .w, .w, .w, .k, .p (iv k.1), .w, .w, .w, .w, .w, .w, .w, .w, .w, .w, .w, .w, .w, .w, .w, .w, .w, .w, .w, .w, .w]) (fun (k : Nat × AHeap) => k.2) (fun (k : Nat × AHeap) => k.1 ≤ N ∧ H.le k.2 ∧ OMat k.2 H.size o rs (matF (fun i c => if i < k.1 then idF i c else 0) N N) []) (fun (k : Nat × AHeap) => N - k.1) (⟨0, H1⟩) (⟨by omega, hle, hom.cast _ (fun i hi c hc => by simp)⟩) ?_ (fun k hk => ?_)
    · conv => whnf
      refine weakH_of (HW.refl _) ?_
      repeat' (first | exact WT.nil | refine WT.same ?_ | refine WT.drop ?_ | refine WT.int (by omega) ?_ | refine WT.eq (by assumption) ?_ | refine WT.bl (by first | assumption | (symm; assumption)) ?_ | refine WT.vv (by assumption) ?_)
    obtain ⟨k, H2⟩ := k
    obtain ⟨hk, hle2, hom2⟩ := hk
    dsimp only at hk hle2 hom2 ⊢
    by_cases hlt : k < N
    · skip
      repeat' ((conv => whnf); first | refine hom2.row hlt ?_ | refine hom2.put2 hlt hlt (fun i c => if i < k + 1 then idF i c else 0) (fun i hi c hc => ?_) (fun H3 hom3 hkp3 => ?_); exact id_aux i c | ((first | (apply vB; (case h => assumption)) | (apply vA; (case h => assumption)) | (apply vC; (case h => assumption))); (case hk => exact kpA); (case he => omega)) | ((first | (apply vI; (case h => assumption)) | (apply vG; (case h => assumption)) | (apply vK; (case h => assumption))); (case hk => exact kpA); (case he => omega); (case hp => omega); (case' g => intro hr_ hc_)) | ((first | (apply vJ; (case h => assumption)) | (apply vH; (case h => assumption)) | (apply vL; (case h => assumption))); (case hk => exact kpA); (case he => omega); (case' g => intro hr_ hc_)) | (apply drawS_auto mixed tt_ok; (· kernel_rfl)) | apply zZ | apply yA | apply yB | ((first | apply zA | apply zC | apply zE | apply zG); (· assumption)) | ((first | apply zB | apply zD | apply zF | apply zH); (· assumption)) | apply zM | apply zN | apply zO | apply zP | apply zQ | apply zR | apply zS | apply zT | apply zU | (apply zV; (· omega)) | (apply zW; (· omega)) | (apply zX; (· (first | omega | (dsimp only; omega)))) | (apply zY; (try (apply zY; apply zX; (· omega))); apply zX; (· omega); apply zX; (· (first | omega | (dsimp only; omega)))) | ((first | apply yJ | apply yK | apply yL | apply yM | apply yN | apply yO); (· exact hgA); (· exact hsA)) | ((first | apply zA | apply zC | apply zE | apply zG); (· omega)) | ((first | apply zB | apply zD | apply zF | apply zH); (· omega)) | ((first | apply zI | apply zK); (· assumption)) | ((first | apply zJ | apply zL); (· assumption)) | fail)
      conv => whnf
      apply Exists.intro (k + 1, H3)
      refine ⟨?inv, ?mu, ?wk⟩
      case wk =>
        conv => whnf
        refine weakH_of (HW.refl _) ?_
        repeat' (first | exact WT.nil | refine WT.same ?_ | refine WT.drop ?_ | refine WT.int (by omega) ?_ | refine WT.eq (by assumption) ?_ | refine WT.bl (by first | assumption | (symm; assumption)) ?_ | refine WT.vv (by assumption) ?_)
      case mu => first | omega | (dsimp only; omega)
      case inv => exact ⟨by omega, hkp3.le _ (by omega) hle2, hom3⟩
    · have hkn : k = N := by omega
      subst hkn
      repeat' ((conv => whnf); first | ((first | (apply vB; (case h => assumption)) | (apply vA; (case h => assumption)) | (apply vC; (case h => assumption))); (case hk => exact kpA); (case he => omega)) | ((first | (apply vI; (case h => assumption)) | (apply vG; (case h => assumption)) | (apply vK; (case h => assumption))); (case hk => exact kpA); (case he => omega); (case hp => omega); (case' g => intro hr_ hc_)) | ((first | (apply vJ; (case h => assumption)) | (apply vH; (case h => assumption)) | (apply vL; (case h => assumption))); (case hk => exact kpA); (case he => omega); (case' g => intro hr_ hc_)) | (apply drawS_auto mixed tt_ok; (· kernel_rfl)) | apply zZ | apply yA | apply yB | ((first | apply zA | apply zC | apply zE | apply zG); (· assumption)) | ((first | apply zB | apply zD | apply zF | apply zH); (· assumption)) | apply zM | apply zN | apply zO | apply zP | apply zQ | apply zR | apply zS | apply zT | apply zU | (apply zV; (· omega)) | (apply zW; (· omega)) | (apply zX; (· (first | omega | (dsimp only; omega)))) | (apply zY; (try (apply zY; apply zX; (· omega))); apply zX; (· omega); apply zX; (· (first | omega | (dsimp only; omega)))) | ((first | apply yJ | apply yK | apply yL | apply yM | apply yN | apply yO); (· exact hgA); (· exact hsA)) | ((first | apply zA | apply zC | apply zE | apply zG); (· omega)) | ((first | apply zB | apply zD | apply zF | apply zH); (· omega)) | ((first | apply zI | apply zK); (· assumption)) | ((first | apply zJ | apply zL); (· assumption)) | fail)
      conv => whnf
      have hom6 := hom2.cast idF (fun i hi c hc => by simp [hi])
      exact ⟨_, HW.fz _ H.size, h _ _ _ (AHeap.le.fz hle2 (Nat.le_refl _)) (hom6.fzF (by omega) (by unfold maxN; omega) (by unfold maxN; omega) (fun i _ c _ => idF_bd i c))⟩
  · rw [if_neg hn, if_neg hn] at h
    by_cases h1 : n < 1
    · skip
      refine callS_walk tt_ok Try.func33 rfl (by kernel_rfl) ?_
      conv => whnf
      repeat' ((conv => whnf); first | ((first | (apply vB; (case h => assumption)) | (apply vA; (case h => assumption)) | (apply vC; (case h => assumption))); (case hk => exact kpA); (case he => omega)) | ((first | (apply vI; (case h => assumption)) | (apply vG; (case h => assumption)) | (apply vK; (case h => assumption))); (case hk => exact kpA); (case he => omega); (case hp => omega); (case' g => intro hr_ hc_)) | ((first | (apply vJ; (case h => assumption)) | (apply vH; (case h => assumption)) | (apply vL; (case h => assumption))); (case hk => exact kpA); (case he => omega); (case' g => intro hr_ hc_)) | (apply drawS_auto mixed tt_ok; (· kernel_rfl)) | apply zZ | apply yA | apply yB | ((first | apply zA | apply zC | apply zE | apply zG); (· assumption)) | ((first | apply zB | apply zD | apply zF | apply zH); (· assumption)) | apply zM | apply zN | apply zO | apply zP | apply zQ | apply zR | apply zS | apply zT | apply zU | (apply zV; (· omega)) | (apply zW; (· omega)) | (apply zX; (· (first | omega | (dsimp only; omega)))) | (apply zY; (try (apply zY; apply zX; (· omega))); apply zX; (· omega); apply zX; (· (first | omega | (dsimp only; omega)))) | ((first | apply yJ | apply yK | apply yL | apply yM | apply yN | apply yO); (· exact hgA); (· exact hsA)) | ((first | apply zA | apply zC | apply zE | apply zG); (· omega)) | ((first | apply zB | apply zD | apply zF | apply zH); (· omega)) | ((first | apply zI | apply zK); (· assumption)) | ((first | apply zJ | apply zL); (· assumption)) | fail)
      conv => whnf
      exact h _ none _ (AHeap.le.refl _) .nil
    · have h2 : 8 < n := by omega
      refine callS_walk tt_ok Try.func33 rfl (by kernel_rfl) ?_
      conv => whnf
      repeat' ((conv => whnf); first | ((first | (apply vB; (case h => assumption)) | (apply vA; (case h => assumption)) | (apply vC; (case h => assumption))); (case hk => exact kpA); (case he => omega)) | ((first | (apply vI; (case h => assumption)) | (apply vG; (case h => assumption)) | (apply vK; (case h => assumption))); (case hk => exact kpA); (case he => omega); (case hp => omega); (case' g => intro hr_ hc_)) | ((first | (apply vJ; (case h => assumption)) | (apply vH; (case h => assumption)) | (apply vL; (case h => assumption))); (case hk => exact kpA); (case he => omega); (case' g => intro hr_ hc_)) | (apply drawS_auto mixed tt_ok; (· kernel_rfl)) | apply zZ | apply yA | apply yB | ((first | apply zA | apply zC | apply zE | apply zG); (· assumption)) | ((first | apply zB | apply zD | apply zF | apply zH); (· assumption)) | apply zM | apply zN | apply zO | apply zP | apply zQ | apply zR | apply zS | apply zT | apply zU | (apply zV; (· omega)) | (apply zW; (· omega)) | (apply zX; (· (first | omega | (dsimp only; omega)))) | (apply zY; (try (apply zY; apply zX; (· omega))); apply zX; (· omega); apply zX; (· (first | omega | (dsimp only; omega)))) | ((first | apply yJ | apply yK | apply yL | apply yM | apply yN | apply yO); (· exact hgA); (· exact hsA)) | ((first | apply zA | apply zC | apply zE | apply zG); (· omega)) | ((first | apply zB | apply zD | apply zF | apply zH); (· omega)) | ((first | apply zI | apply zK); (· assumption)) | ((first | apply zJ | apply zL); (· assumption)) | fail)
      conv => whnf
      exact h _ none _ (AHeap.le.refl _) .nil

abbrev silOk (n f : Int) : Prop := chan n ∧ (0 ≤ f ∧ f ≤ 4096)
def silV (n f : Int) : List (List Int) := if silOk n f then matF (fun _ _ => 0) n.toNat f.toNat else []
def silE (n f : Int) : Int := if silOk n f then 0 else 7
theorem silent1_c {n f : Int} {H : AHeap} {K : CK} (h : ∀ H' p c, H.le H' → Mat H' p (silV n f) → K (.returned (.tuple #[.slice p (silV n f).length c, iv (silE n f)])) H') : callS P (fnV 34) [iv n, iv f] H K := by
  unfold silV silE at h
  by_cases hn : silOk n f
  · rw [if_pos hn, if_pos hn, matF_len] at h
    obtain ⟨hn1, hf1⟩ := hn
    obtain ⟨N, rfl⟩ : ∃ N : Nat, n = N := ⟨n.toNat, by omega⟩
    obtain ⟨L, rfl⟩ : ∃ L : Nat, f = L := ⟨f.toNat, by omega⟩
    rw [Int.toNat_natCast, Int.toNat_natCast] at h
    refine callS_post ?_
    refine silent_c ⟨by omega, by omega, by omega⟩ (fun H1 o rs hle hom => ?_)
    exact ⟨_, HW.fz _ H.size, h _ _ _ (AHeap.le.fz hle (Nat.le_refl _)) (hom.fzF (by omega) (by unfold maxN; omega) (by unfold maxN; omega) (fun i _ c _ => by unfold inR; omega))⟩
  · rw [if_neg hn, if_neg hn] at h
    by_cases h1 : n < 1
    · skip
      refine callS_walk tt_ok Try.func34 rfl (by kernel_rfl) ?_
      conv => whnf
      repeat' ((conv => whnf); first | (apply drawS_auto mixed tt_ok; (· kernel_rfl)) | apply zZ | apply yA | apply yB | ((first | apply zA | apply zC | apply zE | apply zG); (· assumption)) | ((first | apply zB | apply zD | apply zF | apply zH); (· assumption)) | apply zM | apply zN | apply zO | apply zP | apply zQ | apply zR | apply zS | apply zT | apply zU | (apply zV; (· omega)) | (apply zW; (· omega)) | (apply zX; (· (first | omega | (dsimp only; omega)))) | (apply zY; (try (apply zY; apply zX; (· omega))); apply zX; (· omega); apply zX; (· (first | omega | (dsimp only; omega)))) | ((first | apply zA | apply zC | apply zE | apply zG); (· omega)) | ((first | apply zB | apply zD | apply zF | apply zH); (· omega)) | ((first | apply zI | apply zK); (· assumption)) | ((first | apply zJ | apply zL); (· assumption)) | fail)
      conv => whnf
      exact h _ none _ (AHeap.le.refl _) .nil
    · by_cases h2 : 8 < n
      · skip
        refine callS_walk tt_ok Try.func34 rfl (by kernel_rfl) ?_
        conv => whnf
        repeat' ((conv => whnf); first | (apply drawS_auto mixed tt_ok; (· kernel_rfl)) | apply zZ | apply yA | apply yB | ((first | apply zA | apply zC | apply zE | apply zG); (· assumption)) | ((first | apply zB | apply zD | apply zF | apply zH); (· assumption)) | apply zM | apply zN | apply zO | apply zP | apply zQ | apply zR | apply zS | apply zT | apply zU | (apply zV; (· omega)) | (apply zW; (· omega)) | (apply zX; (· (first | omega | (dsimp only; omega)))) | (apply zY; (try (apply zY; apply zX; (· omega))); apply zX; (· omega); apply zX; (· (first | omega | (dsimp only; omega)))) | ((first | apply zA | apply zC | apply zE | apply zG); (· omega)) | ((first | apply zB | apply zD | apply zF | apply zH); (· omega)) | ((first | apply zI | apply zK); (· assumption)) | ((first | apply zJ | apply zL); (· assumption)) | fail)
        conv => whnf
        exact h _ none _ (AHeap.le.refl _) .nil
      · by_cases h3 : f < 0
        · skip
          refine callS_walk tt_ok Try.func34 rfl (by kernel_rfl) ?_
          conv => whnf
          repeat' ((conv => whnf); first | (apply drawS_auto mixed tt_ok; (· kernel_rfl)) | apply zZ | apply yA | apply yB | ((first | apply zA | apply zC | apply zE | apply zG); (· assumption)) | ((first | apply zB | apply zD | apply zF | apply zH); (· assumption)) | apply zM | apply zN | apply zO | apply zP | apply zQ | apply zR | apply zS | apply zT | apply zU | (apply zV; (· omega)) | (apply zW; (· omega)) | (apply zX; (· (first | omega | (dsimp only; omega)))) | (apply zY; (try (apply zY; apply zX; (· omega))); apply zX; (· omega); apply zX; (· (first | omega | (dsimp only; omega)))) | ((first | apply zA | apply zC | apply zE | apply zG); (· omega)) | ((first | apply zB | apply zD | apply zF | apply zH); (· omega)) | ((first | apply zI | apply zK); (· assumption)) | ((first | apply zJ | apply zL); (· assumption)) | fail)
          conv => whnf
          exact h _ none _ (AHeap.le.refl _) .nil
        · have h4 : 4096 < f := by omega
          refine callS_walk tt_ok Try.func34 rfl (by kernel_rfl) ?_
          conv => whnf
          repeat' ((conv => whnf); first | (apply drawS_auto mixed tt_ok; (· kernel_rfl)) | apply zZ | apply yA | apply yB | ((first | apply zA | apply zC | apply zE | apply zG); (· assumption)) | ((first | apply zB | apply zD | apply zF | apply zH); (· assumption)) | apply zM | apply zN | apply zO | apply zP | apply zQ | apply zR | apply zS | apply zT | apply zU | (apply zV; (· omega)) | (apply zW; (· omega)) | (apply zX; (· (first | omega | (dsimp only; omega)))) | (apply zY; (try (apply zY; apply zX; (· omega))); apply zX; (· omega); apply zX; (· (first | omega | (dsimp only; omega)))) | ((first | apply zA | apply zC | apply zE | apply zG); (· omega)) | ((first | apply zB | apply zD | apply zF | apply zH); (· omega)) | ((first | apply zI | apply zK); (· assumption)) | ((first | apply zJ | apply zL); (· assumption)) | fail)
          conv => whnf
          exact h _ none _ (AHeap.le.refl _) .nil
theorem silent2_c {n f : Int} {H : AHeap} {K : CK} (h : ∀ H' p c, H.le H' → Mat H' p (silV n f) → K (.returned (.tuple #[.slice p (silV n f).length c, iv (silE n f)])) H') : callS P (fnV 35) [iv n, iv f] H K := by
  unfold silV silE at h
  by_cases hn : silOk n f
  · rw [if_pos hn, if_pos hn, matF_len] at h
    obtain ⟨hn1, hf1⟩ := hn
    obtain ⟨N, rfl⟩ : ∃ N : Nat, n = N := ⟨n.toNat, by omega⟩
    obtain ⟨L, rfl⟩ : ∃ L : Nat, f = L := ⟨f.toNat, by omega⟩
    rw [Int.toNat_natCast, Int.toNat_natCast] at h
    refine callS_post ?_
    refine callS_walk tt_ok Try.func35 rfl (by kernel_rfl) ?_
    conv => whnf
    repeat' ((conv => whnf); first | refine nothingF_c (n := N) (m := L) ⟨by omega, by omega, by omega⟩ (fun H1 o rs hle hom => ?_) | (apply drawS_auto mixed tt_ok; (· kernel_rfl)) | apply zZ | apply yA | apply yB | ((first | apply zA | apply zC | apply zE | apply zG); (· assumption)) | ((first | apply zB | apply zD | apply zF | apply zH); (· assumption)) | apply zM | apply zN | apply zO | apply zP | apply zQ | apply zR | apply zS | apply zT | apply zU | (apply zV; (· omega)) | (apply zW; (· omega)) | (apply zX; (· (first | omega | (dsimp only; omega)))) | (apply zY; (try (apply zY; apply zX; (· omega))); apply zX; (· omega); apply zX; (· (first | omega | (dsimp only; omega)))) | ((first | apply zA | apply zC | apply zE | apply zG); (· omega)) | ((first | apply zB | apply zD | apply zF | apply zH); (· omega)) | ((first | apply zI | apply zK); (· assumption)) | ((first | apply zJ | apply zL); (· assumption)) | fail)
    conv => whnf
    exact ⟨_, HW.fz _ H.size, h _ _ _ (AHeap.le.fz hle (Nat.le_refl _)) (hom.fzF (by omega) (by unfold maxN; omega) (by unfold maxN; omega) (fun i _ c _ => by unfold inR; omega))⟩
  · rw [if_neg hn, if_neg hn] at h
    by_cases h1 : n < 1
    · skip
      refine callS_walk tt_ok Try.func35 rfl (by kernel_rfl) ?_
      conv => whnf
      repeat' ((conv => whnf); first | (apply drawS_auto mixed tt_ok; (· kernel_rfl)) | apply zZ | apply yA | apply yB | ((first | apply zA | apply zC | apply zE | apply zG); (· assumption)) | ((first | apply zB | apply zD | apply zF | apply zH); (· assumption)) | apply zM | apply zN | apply zO | apply zP | apply zQ | apply zR | apply zS | apply zT | apply zU | (apply zV; (· omega)) | (apply zW; (· omega)) | (apply zX; (· (first | omega | (dsimp only; omega)))) | (apply zY; (try (apply zY; apply zX; (· omega))); apply zX; (· omega); apply zX; (· (first | omega | (dsimp only; omega)))) | ((first | apply zA | apply zC | apply zE | apply zG); (· omega)) | ((first | apply zB | apply zD | apply zF | apply zH); (· omega)) | ((first | apply zI | apply zK); (· assumption)) | ((first | apply zJ | apply zL); (· assumption)) | fail)
      conv => whnf
      exact h _ none _ (AHeap.le.refl _) .nil
    · by_cases h2 : 8 < n
      · skip
        refine callS_walk tt_ok Try.func35 rfl (by kernel_rfl) ?_
        conv => whnf
        repeat' ((conv => whnf); first | (apply drawS_auto mixed tt_ok; (· kernel_rfl)) | apply zZ | apply yA | apply yB | ((first | apply zA | apply zC | apply zE | apply zG); (· assumption)) | ((first | apply zB | apply zD | apply zF | apply zH); (· assumption)) | apply zM | apply zN | apply zO | apply zP | apply zQ | apply zR | apply zS | apply zT | apply zU | (apply zV; (· omega)) | (apply zW; (· omega)) | (apply zX; (· (first | omega | (dsimp only; omega)))) | (apply zY; (try (apply zY; apply zX; (· omega))); apply zX; (· omega); apply zX; (· (first | omega | (dsimp only; omega)))) | ((first | apply zA | apply zC | apply zE | apply zG); (· omega)) | ((first | apply zB | apply zD | apply zF | apply zH); (· omega)) | ((first | apply zI | apply zK); (· assumption)) | ((first | apply zJ | apply zL); (· assumption)) | fail)
        conv => whnf
        exact h _ none _ (AHeap.le.refl _) .nil
      · by_cases h3 : f < 0
        · skip
          refine callS_walk tt_ok Try.func35 rfl (by kernel_rfl) ?_
          conv => whnf
          repeat' ((conv => whnf); first | (apply drawS_auto mixed tt_ok; (· kernel_rfl)) | apply zZ | apply yA | apply yB | ((first | apply zA | apply zC | apply zE | apply zG); (· assumption)) | ((first | apply zB | apply zD | apply zF | apply zH); (· assumption)) | apply zM | apply zN | apply zO | apply zP | apply zQ | apply zR | apply zS | apply zT | apply zU | (apply zV; (· omega)) | (apply zW; (· omega)) | (apply zX; (· (first | omega | (dsimp only; omega)))) | (apply zY; (try (apply zY; apply zX; (· omega))); apply zX; (· omega); apply zX; (· (first | omega | (dsimp only; omega)))) | ((first | apply zA | apply zC | apply zE | apply zG); (· omega)) | ((first | apply zB | apply zD | apply zF | apply zH); (· omega)) | ((first | apply zI | apply zK); (· assumption)) | ((first | apply zJ | apply zL); (· assumption)) | fail)
          conv => whnf
          exact h _ none _ (AHeap.le.refl _) .nil
        · have h4 : 4096 < f := by omega
          refine callS_walk tt_ok Try.func35 rfl (by kernel_rfl) ?_
          conv => whnf
          repeat' ((conv => whnf); first | (apply drawS_auto mixed tt_ok; (· kernel_rfl)) | apply zZ | apply yA | apply yB | ((first | apply zA | apply zC | apply zE | apply zG); (· assumption)) | ((first | apply zB | apply zD | apply zF | apply zH); (· assumption)) | apply zM | apply zN | apply zO | apply zP | apply zQ | apply zR | apply zS | apply zT | apply zU | (apply zV; (· omega)) | (apply zW; (· omega)) | (apply zX; (· (first | omega | (dsimp only; omega)))) | (apply zY; (try (apply zY; apply zX; (· omega))); apply zX; (· omega); apply zX; (· (first | omega | (dsimp only; omega)))) | ((first | apply zA | apply zC | apply zE | apply zG); (· omega)) | ((first | apply zB | apply zD | apply zF | apply zH); (· omega)) | ((first | apply zI | apply zK); (· assumption)) | ((first | apply zJ | apply zL); (· assumption)) | fail)
          conv => whnf
          exact h _ none _ (AHeap.le.refl _) .nil
theorem matrices_v {a b : Option Addr} {c1 c2 : Nat} {e : Int} {xs : List (List Int)} {H : AHeap} {K : CK} (h1 : Mat H a xs) (h2 : Mat H b xs) (h : K (.returned (.bool true)) H) :
    callS P (fnV 13) [.slice a xs.length c1, iv e, .slice b xs.length c2, iv e] H K := by
  refine callS_walk tt_ok Try.func13 rfl (by kernel_rfl) ?_
  conv => whnf
  repeat' ((conv => whnf); first | refine sameMatrix_c h1 h2 ?_ | (apply drawS_auto mixed tt_ok; (· kernel_rfl)) | apply zZ | apply yA | apply yB | ((first | apply zA | apply zC | apply zE | apply zG); (· assumption)) | ((first | apply zB | apply zD | apply zF | apply zH); (· assumption)) | apply zM | apply zN | apply zO | apply zP | apply zQ | apply zR | apply zS | apply zT | apply zU | (apply zV; (· omega)) | (apply zW; (· omega)) | (apply zX; (· (first | omega | (dsimp only; omega)))) | (apply zY; (try (apply zY; apply zX; (· omega))); apply zX; (· omega); apply zX; (· (first | omega | (dsimp only; omega)))) | ((first | apply zA | apply zC | apply zE | apply zG); (· omega)) | ((first | apply zB | apply zD | apply zF | apply zH); (· omega)) | ((first | apply zI | apply zK); (· assumption)) | ((first | apply zJ | apply zL); (· assumption)) | fail)
  conv => whnf
  rw [show decide (xs = xs) = true by simp]
  exact h
theorem usual_law {n f : Int} {H : AHeap} : ACall P 6 [iv n, iv f] H (fun e _ => e = .returned (.bool true)) := by
  refine acall_walk tt_ok Try.func6 rfl ?_
  conv => whnf
  repeat' ((conv => whnf); first | refine usual1_c (fun H1 p1 c1 hle1 hm1 => ?_) | refine usual2_c (fun H2 p2 c2 hle2 hm2 => ?_) | refine ident1_c (fun H3 p3 c3 hle3 hm3 => ?_) | refine ident2_c (fun H4 p4 c4 hle4 hm4 => ?_) | refine silent1_c (fun H5 p5 c5 hle5 hm5 => ?_) | refine silent2_c (fun H6 p6 c6 hle6 hm6 => ?_) | refine sameRow_c (((((hm1.kp hle2.kp).kp hle3.kp).kp hle4.kp).kp hle5.kp).kp hle6.kp) ((((hm2.kp hle3.kp).kp hle4.kp).kp hle5.kp).kp hle6.kp) ?_ | refine matrices_v (((hm3.kp hle4.kp).kp hle5.kp).kp hle6.kp) ((hm4.kp hle5.kp).kp hle6.kp) ?_ | refine sameBlock_c (hm5.kp hle6.kp) hm6 ?_ | (apply awake_c) | (apply drawS_auto mixed tt_ok; (· kernel_rfl)) | apply zZ | apply yA | apply yB | ((first | apply zA | apply zC | apply zE | apply zG); (· assumption)) | ((first | apply zB | apply zD | apply zF | apply zH); (· assumption)) | apply zM | apply zN | apply zO | apply zP | apply zQ | apply zR | apply zS | apply zT | apply zU | (apply zV; (· omega)) | (apply zW; (· omega)) | (apply zX; (· (first | omega | (dsimp only; omega)))) | (apply zY; (try (apply zY; apply zX; (· omega))); apply zX; (· omega); apply zX; (· (first | omega | (dsimp only; omega)))) | ((first | apply zA | apply zC | apply zE | apply zG); (· omega)) | ((first | apply zB | apply zD | apply zF | apply zH); (· omega)) | ((first | apply zI | apply zK); (· assumption)) | ((first | apply zJ | apply zL); (· assumption)) | fail)
  conv => whnf
theorem layoutUsual_acall {DH : Type} (ds : List (DataW DH)) (H : AHeap) (vs : List Value) (h : ReadsArgs tt H [3, 3] vs ds) : ACall P 6 vs H (fun e _ => e = .returned (.bool true)) := by
  obtain ⟨v, vs, d, ds, rfl, rfl, h1, h⟩ := readsArgs_cons h
  obtain ⟨v, vs, d, ds, rfl, rfl, h2, h⟩ := readsArgs_cons h
  cases readsArgs_nil h
  obtain ⟨a, rfl, _⟩ := arg_int h1 rfl
  obtain ⟨b, rfl, _⟩ := arg_int h2 rfl
  exact usual_law
theorem layoutUsual_lifted (os : Os) (started : os.Started) (DH : Type) (enc : TypeId × Value → DH) :
    ReturnsInHanded {} Try.checked os 6 .any (Rows.layoutUsualSpec.pre6 enc Try.prog Try.f6 [] false) (Rows.layoutUsualSpec.post enc Try.prog Try.f6 false true false false) :=
  law_returns (C := Try.checked) (m := 12) Try.own2 started (by kernel_rfl) Try.func6
    (ChangeSpec.witness6 (enc := enc) (C := Try.checked) false ⟨#[], #[.int .i64 0, .int .i64 0], []⟩ 8 (by kernel_rfl) (by kernel_rfl) (by kernel_rfl) (by kernel_rfl))
    tt_ok (by kernel_rfl) rfl (by kernel_rfl) rfl (by kernel_rfl)
    (fun ds hl => by match ds, hl with | [d0, d1], _ => exact ⟨rfl, rfl, rfl⟩)
    (fun ds H vs hs h => layoutUsual_acall ds H vs h)
theorem layoutUsual_holds : Rows.LayoutUsualSaid :=
  OpenClaim.holds_of_wide 6 Try.f6 rfl rfl rfl rfl rfl rfl rfl ⟨rfl, rfl, rfl, rfl, rfl⟩ rfl rfl rfl rfl rfl (by kernel_rfl) Try.func6 (by kernel_rfl)
    (of_decide_eq_true (by kernel_rfl)) (by unfold Func.isWrapper; rw [if_neg (by decide +kernel)]; exact ⟨rfl, rfl⟩)
    (fun os started H enc _ => layoutUsual_lifted os started H enc)
end Go.Abs
namespace Go.Proofs.Ythadnbgkmfacmaa
theorem layoutUsualProved : Rows.LayoutUsualSaid := Go.Abs.layoutUsual_holds
end Go.Proofs.Ythadnbgkmfacmaa
