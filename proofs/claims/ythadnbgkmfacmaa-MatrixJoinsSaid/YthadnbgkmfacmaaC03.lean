/- Contracts of functions that many packages share: comparing and looking at blocks. No conditions beyond those stated. -/
import Derived.Test.YthadnbgkmfacmaaT03
set_option linter.all false
set_option maxHeartbeats 400000
set_option maxRecDepth 20000
namespace Go.Abs
open Go Go.Proofs

theorem sameRow_c {a b : Option Addr} {c1 c2 : Nat} {xs ys : List Int} {H : AHeap} {K : CK} (h1 : Row H a xs) (h2 : Row H b ys) (h : K (.returned (.bool (decide (xs = ys)))) H) :
    callS P (fnV 20) [.slice a xs.length c1, .slice b ys.length c2] H K := by
  have hl1 := h1.len
  refine callS_walk tt_ok Try.func20 rfl (by kernel_rfl) ?_
  conv => whnf
  by_cases hl : xs.length = ys.length
  · skip
    repeat' ((conv => whnf); first | ((first | (apply vB; (case h => assumption)) | (apply vA; (case h => assumption)) | (apply vC; (case h => assumption))); (case hk => exact kpA); (case he => omega)) | ((first | (apply vI; (case h => assumption)) | (apply vG; (case h => assumption)) | (apply vK; (case h => assumption))); (case hk => exact kpA); (case he => omega); (case hp => omega); (case' g => intro hr_ hc_)) | ((first | (apply vJ; (case h => assumption)) | (apply vH; (case h => assumption)) | (apply vL; (case h => assumption))); (case hk => exact kpA); (case he => omega); (case' g => intro hr_ hc_)) | (apply drawS_auto mixed tt_ok; (· kernel_rfl)) | apply zZ | apply yA | apply yB | ((first | apply zA | apply zC | apply zE | apply zG); (· assumption)) | ((first | apply zB | apply zD | apply zF | apply zH); (· assumption)) | apply zM | apply zN | apply zO | apply zP | apply zQ | apply zR | apply zS | apply zT | apply zU | (apply zV; (· omega)) | (apply zW; (· omega)) | (apply zX; (· (first | omega | (dsimp only; omega)))) | (apply zY; (try (apply zY; apply zX; (· omega))); apply zX; (· omega); apply zX; (· (first | omega | (dsimp only; omega)))) | ((first | apply yJ | apply yK | apply yL | apply yM | apply yN | apply yO); (· exact hgA); (· exact hsA)) | ((first | apply zA | apply zC | apply zE | apply zG); (· omega)) | ((first | apply zB | apply zD | apply zF | apply zH); (· omega)) | ((first | apply zI | apply zK); (· assumption)) | ((first | apply zJ | apply zL); (· assumption)) | fail)
    conv => whnf
    refine loopS_mask tt_ok (fun (k : Nat) => [.k, .k, .w, .w, .w, .p (iv k), .w, .w, .w, .w, .w, .w, .w, .w, .w, .w, .w, .w, .w, .w, .w, .w, .w, .w, .w, .w]) (fun (k : Nat) => H) (fun (k : Nat) => k ≤ xs.length ∧ xs.take k = ys.take k) (fun (k : Nat) => xs.length - k) (0) (⟨by omega, by simp⟩) ?_ (fun k hk => ?_)
    · conv => whnf
      refine weakH_of (HW.refl _) ?_
      repeat' (first | exact WT.nil | refine WT.same ?_ | refine WT.drop ?_ | refine WT.int (by omega) ?_ | refine WT.eq (by assumption) ?_)
    obtain ⟨hk, he⟩ := hk
    by_cases hlt : k < xs.length
    · obtain ⟨i, o, rfl⟩ := h1.at hlt
      obtain ⟨j, p, rfl⟩ := h2.at (hl ▸ hlt)
      by_cases hx : xs[k] = ys[k]
      · skip
        repeat' ((conv => whnf); first | ((first | (apply vB; (case h => assumption)) | (apply vA; (case h => assumption)) | (apply vC; (case h => assumption))); (case hk => exact kpA); (case he => omega)) | ((first | (apply vI; (case h => assumption)) | (apply vG; (case h => assumption)) | (apply vK; (case h => assumption))); (case hk => exact kpA); (case he => omega); (case hp => omega); (case' g => intro hr_ hc_)) | ((first | (apply vJ; (case h => assumption)) | (apply vH; (case h => assumption)) | (apply vL; (case h => assumption))); (case hk => exact kpA); (case he => omega); (case' g => intro hr_ hc_)) | (apply drawS_auto mixed tt_ok; (· kernel_rfl)) | apply zZ | apply yA | apply yB | ((first | apply zA | apply zC | apply zE | apply zG); (· assumption)) | ((first | apply zB | apply zD | apply zF | apply zH); (· assumption)) | apply zM | apply zN | apply zO | apply zP | apply zQ | apply zR | apply zS | apply zT | apply zU | (apply zV; (· omega)) | (apply zW; (· omega)) | (apply zX; (· (first | omega | (dsimp only; omega)))) | (apply zY; (try (apply zY; apply zX; (· omega))); apply zX; (· omega); apply zX; (· (first | omega | (dsimp only; omega)))) | ((first | apply yJ | apply yK | apply yL | apply yM | apply yN | apply yO); (· exact hgA); (· exact hsA)) | ((first | apply zA | apply zC | apply zE | apply zG); (· omega)) | ((first | apply zB | apply zD | apply zF | apply zH); (· omega)) | ((first | apply zI | apply zK); (· assumption)) | ((first | apply zJ | apply zL); (· assumption)) | fail)
        conv => whnf
        refine ⟨k + 1, ⟨by omega, by rw [take_succ_of hlt, take_succ_of (hl ▸ hlt), he, hx]⟩, by omega, ?_⟩
        conv => whnf
        refine weakH_of (HW.refl _) ?_
        repeat' (first | exact WT.nil | refine WT.same ?_ | refine WT.drop ?_ | refine WT.int (by omega) ?_ | refine WT.eq (by assumption) ?_)
      · have hne : xs ≠ ys := fun e => hx (by subst e; rfl)
        rw [decide_eq_false hne] at h
        repeat' ((conv => whnf); first | ((first | (apply vB; (case h => assumption)) | (apply vA; (case h => assumption)) | (apply vC; (case h => assumption))); (case hk => exact kpA); (case he => omega)) | ((first | (apply vI; (case h => assumption)) | (apply vG; (case h => assumption)) | (apply vK; (case h => assumption))); (case hk => exact kpA); (case he => omega); (case hp => omega); (case' g => intro hr_ hc_)) | ((first | (apply vJ; (case h => assumption)) | (apply vH; (case h => assumption)) | (apply vL; (case h => assumption))); (case hk => exact kpA); (case he => omega); (case' g => intro hr_ hc_)) | (apply drawS_auto mixed tt_ok; (· kernel_rfl)) | apply zZ | apply yA | apply yB | ((first | apply zA | apply zC | apply zE | apply zG); (· assumption)) | ((first | apply zB | apply zD | apply zF | apply zH); (· assumption)) | apply zM | apply zN | apply zO | apply zP | apply zQ | apply zR | apply zS | apply zT | apply zU | (apply zV; (· omega)) | (apply zW; (· omega)) | (apply zX; (· (first | omega | (dsimp only; omega)))) | (apply zY; (try (apply zY; apply zX; (· omega))); apply zX; (· omega); apply zX; (· (first | omega | (dsimp only; omega)))) | ((first | apply yJ | apply yK | apply yL | apply yM | apply yN | apply yO); (· exact hgA); (· exact hsA)) | ((first | apply zA | apply zC | apply zE | apply zG); (· omega)) | ((first | apply zB | apply zD | apply zF | apply zH); (· omega)) | ((first | apply zI | apply zK); (· assumption)) | ((first | apply zJ | apply zL); (· assumption)) | fail)
        conv => whnf
        exact h
    · have hxy : xs = ys := by rwa [List.take_of_length_le (by omega), List.take_of_length_le (by omega)] at he
      rw [decide_eq_true hxy] at h
      repeat' ((conv => whnf); first | ((first | (apply vB; (case h => assumption)) | (apply vA; (case h => assumption)) | (apply vC; (case h => assumption))); (case hk => exact kpA); (case he => omega)) | ((first | (apply vI; (case h => assumption)) | (apply vG; (case h => assumption)) | (apply vK; (case h => assumption))); (case hk => exact kpA); (case he => omega); (case hp => omega); (case' g => intro hr_ hc_)) | ((first | (apply vJ; (case h => assumption)) | (apply vH; (case h => assumption)) | (apply vL; (case h => assumption))); (case hk => exact kpA); (case he => omega); (case' g => intro hr_ hc_)) | (apply drawS_auto mixed tt_ok; (· kernel_rfl)) | apply zZ | apply yA | apply yB | ((first | apply zA | apply zC | apply zE | apply zG); (· assumption)) | ((first | apply zB | apply zD | apply zF | apply zH); (· assumption)) | apply zM | apply zN | apply zO | apply zP | apply zQ | apply zR | apply zS | apply zT | apply zU | (apply zV; (· omega)) | (apply zW; (· omega)) | (apply zX; (· (first | omega | (dsimp only; omega)))) | (apply zY; (try (apply zY; apply zX; (· omega))); apply zX; (· omega); apply zX; (· (first | omega | (dsimp only; omega)))) | ((first | apply yJ | apply yK | apply yL | apply yM | apply yN | apply yO); (· exact hgA); (· exact hsA)) | ((first | apply zA | apply zC | apply zE | apply zG); (· omega)) | ((first | apply zB | apply zD | apply zF | apply zH); (· omega)) | ((first | apply zI | apply zK); (· assumption)) | ((first | apply zJ | apply zL); (· assumption)) | fail)
      conv => whnf
      exact h
  · have hne : xs ≠ ys := fun e => hl (by rw [e])
    rw [decide_eq_false hne] at h
    repeat' ((conv => whnf); first | ((first | (apply vB; (case h => assumption)) | (apply vA; (case h => assumption)) | (apply vC; (case h => assumption))); (case hk => exact kpA); (case he => omega)) | ((first | (apply vI; (case h => assumption)) | (apply vG; (case h => assumption)) | (apply vK; (case h => assumption))); (case hk => exact kpA); (case he => omega); (case hp => omega); (case' g => intro hr_ hc_)) | ((first | (apply vJ; (case h => assumption)) | (apply vH; (case h => assumption)) | (apply vL; (case h => assumption))); (case hk => exact kpA); (case he => omega); (case' g => intro hr_ hc_)) | (apply drawS_auto mixed tt_ok; (· kernel_rfl)) | apply zZ | apply yA | apply yB | ((first | apply zA | apply zC | apply zE | apply zG); (· assumption)) | ((first | apply zB | apply zD | apply zF | apply zH); (· assumption)) | apply zM | apply zN | apply zO | apply zP | apply zQ | apply zR | apply zS | apply zT | apply zU | (apply zV; (· omega)) | (apply zW; (· omega)) | (apply zX; (· (first | omega | (dsimp only; omega)))) | (apply zY; (try (apply zY; apply zX; (· omega))); apply zX; (· omega); apply zX; (· (first | omega | (dsimp only; omega)))) | ((first | apply yJ | apply yK | apply yL | apply yM | apply yN | apply yO); (· exact hgA); (· exact hsA)) | ((first | apply zA | apply zC | apply zE | apply zG); (· omega)) | ((first | apply zB | apply zD | apply zF | apply zH); (· omega)) | ((first | apply zI | apply zK); (· assumption)) | ((first | apply zJ | apply zL); (· assumption)) | fail)
    conv => whnf
    exact h
theorem sameMatrix_c {a b : Option Addr} {c1 c2 : Nat} {xs ys : List (List Int)} {H : AHeap} {K : CK} (h1 : Mat H a xs) (h2 : Mat H b ys) (h : K (.returned (.bool (decide (xs = ys)))) H) :
    callS P (fnV 29) [.slice a xs.length c1, .slice b ys.length c2] H K := by
  have hl1 := h1.len
  refine callS_walk tt_ok Try.func29 rfl (by kernel_rfl) ?_
  conv => whnf
  by_cases hl : xs.length = ys.length
  · skip
    repeat' ((conv => whnf); first | ((first | (apply vB; (case h => assumption)) | (apply vA; (case h => assumption)) | (apply vC; (case h => assumption))); (case hk => exact kpA); (case he => omega)) | ((first | (apply vI; (case h => assumption)) | (apply vG; (case h => assumption)) | (apply vK; (case h => assumption))); (case hk => exact kpA); (case he => omega); (case hp => omega); (case' g => intro hr_ hc_)) | ((first | (apply vJ; (case h => assumption)) | (apply vH; (case h => assumption)) | (apply vL; (case h => assumption))); (case hk => exact kpA); (case he => omega); (case' g => intro hr_ hc_)) | (apply drawS_auto mixed tt_ok; (· kernel_rfl)) | apply zZ | apply yA | apply yB | ((first | apply zA | apply zC | apply zE | apply zG); (· assumption)) | ((first | apply zB | apply zD | apply zF | apply zH); (· assumption)) | apply zM | apply zN | apply zO | apply zP | apply zQ | apply zR | apply zS | apply zT | apply zU | (apply zV; (· omega)) | (apply zW; (· omega)) | (apply zX; (· (first | omega | (dsimp only; omega)))) | (apply zY; (try (apply zY; apply zX; (· omega))); apply zX; (· omega); apply zX; (· (first | omega | (dsimp only; omega)))) | ((first | apply yJ | apply yK | apply yL | apply yM | apply yN | apply yO); (· exact hgA); (· exact hsA)) | ((first | apply zA | apply zC | apply zE | apply zG); (· omega)) | ((first | apply zB | apply zD | apply zF | apply zH); (· omega)) | ((first | apply zI | apply zK); (· assumption)) | ((first | apply zJ | apply zL); (· assumption)) | fail)
    conv => whnf
    refine loopS_mask tt_ok (fun (k : Nat) => [.k, .k, .w, .w, .w, .p (iv k), .w, .w, .w, .w, .w, .w, .w, .w, .w, .w, .w, .w, .w, .w, .w, .w, .w, .w, .w, .w, .w]) (fun (k : Nat) => H) (fun (k : Nat) => k ≤ xs.length ∧ xs.take k = ys.take k) (fun (k : Nat) => xs.length - k) (0) (⟨by omega, by simp⟩) ?_ (fun k hk => ?_)
    · conv => whnf
      refine weakH_of (HW.refl _) ?_
      repeat' (first | exact WT.nil | refine WT.same ?_ | refine WT.drop ?_ | refine WT.int (by omega) ?_ | refine WT.eq (by assumption) ?_)
    obtain ⟨hk, he⟩ := hk
    by_cases hlt : k < xs.length
    · obtain ⟨i, o, rfl⟩ := h1.at hlt
      obtain ⟨j, p, rfl⟩ := h2.at (hl ▸ hlt)
      by_cases hx : xs[k] = ys[k]
      · skip
        repeat' ((conv => whnf); first | (apply sameRow_c; (· assumption); (· assumption)) | ((first | (apply vB; (case h => assumption)) | (apply vA; (case h => assumption)) | (apply vC; (case h => assumption))); (case hk => exact kpA); (case he => omega)) | ((first | (apply vI; (case h => assumption)) | (apply vG; (case h => assumption)) | (apply vK; (case h => assumption))); (case hk => exact kpA); (case he => omega); (case hp => omega); (case' g => intro hr_ hc_)) | ((first | (apply vJ; (case h => assumption)) | (apply vH; (case h => assumption)) | (apply vL; (case h => assumption))); (case hk => exact kpA); (case he => omega); (case' g => intro hr_ hc_)) | (apply drawS_auto mixed tt_ok; (· kernel_rfl)) | apply zZ | apply yA | apply yB | ((first | apply zA | apply zC | apply zE | apply zG); (· assumption)) | ((first | apply zB | apply zD | apply zF | apply zH); (· assumption)) | apply zM | apply zN | apply zO | apply zP | apply zQ | apply zR | apply zS | apply zT | apply zU | (apply zV; (· omega)) | (apply zW; (· omega)) | (apply zX; (· (first | omega | (dsimp only; omega)))) | (apply zY; (try (apply zY; apply zX; (· omega))); apply zX; (· omega); apply zX; (· (first | omega | (dsimp only; omega)))) | ((first | apply yJ | apply yK | apply yL | apply yM | apply yN | apply yO); (· exact hgA); (· exact hsA)) | ((first | apply zA | apply zC | apply zE | apply zG); (· omega)) | ((first | apply zB | apply zD | apply zF | apply zH); (· omega)) | ((first | apply zI | apply zK); (· assumption)) | ((first | apply zJ | apply zL); (· assumption)) | fail)
        conv => whnf
        refine ⟨k + 1, ⟨by omega, by rw [take_succ_of hlt, take_succ_of (hl ▸ hlt), he, hx]⟩, by omega, ?_⟩
        conv => whnf
        refine weakH_of (HW.refl _) ?_
        repeat' (first | exact WT.nil | refine WT.same ?_ | refine WT.drop ?_ | refine WT.int (by omega) ?_ | refine WT.eq (by assumption) ?_)
      · have hne : xs ≠ ys := fun e => hx (by subst e; rfl)
        rw [decide_eq_false hne] at h
        repeat' ((conv => whnf); first | (apply sameRow_c; (· assumption); (· assumption)) | ((first | (apply vB; (case h => assumption)) | (apply vA; (case h => assumption)) | (apply vC; (case h => assumption))); (case hk => exact kpA); (case he => omega)) | ((first | (apply vI; (case h => assumption)) | (apply vG; (case h => assumption)) | (apply vK; (case h => assumption))); (case hk => exact kpA); (case he => omega); (case hp => omega); (case' g => intro hr_ hc_)) | ((first | (apply vJ; (case h => assumption)) | (apply vH; (case h => assumption)) | (apply vL; (case h => assumption))); (case hk => exact kpA); (case he => omega); (case' g => intro hr_ hc_)) | (apply drawS_auto mixed tt_ok; (· kernel_rfl)) | apply zZ | apply yA | apply yB | ((first | apply zA | apply zC | apply zE | apply zG); (· assumption)) | ((first | apply zB | apply zD | apply zF | apply zH); (· assumption)) | apply zM | apply zN | apply zO | apply zP | apply zQ | apply zR | apply zS | apply zT | apply zU | (apply zV; (· omega)) | (apply zW; (· omega)) | (apply zX; (· (first | omega | (dsimp only; omega)))) | (apply zY; (try (apply zY; apply zX; (· omega))); apply zX; (· omega); apply zX; (· (first | omega | (dsimp only; omega)))) | ((first | apply yJ | apply yK | apply yL | apply yM | apply yN | apply yO); (· exact hgA); (· exact hsA)) | ((first | apply zA | apply zC | apply zE | apply zG); (· omega)) | ((first | apply zB | apply zD | apply zF | apply zH); (· omega)) | ((first | apply zI | apply zK); (· assumption)) | ((first | apply zJ | apply zL); (· assumption)) | fail)
        conv => whnf
        exact h
    · have hxy : xs = ys := by rwa [List.take_of_length_le (by omega), List.take_of_length_le (by omega)] at he
      rw [decide_eq_true hxy] at h
      repeat' ((conv => whnf); first | ((first | (apply vB; (case h => assumption)) | (apply vA; (case h => assumption)) | (apply vC; (case h => assumption))); (case hk => exact kpA); (case he => omega)) | ((first | (apply vI; (case h => assumption)) | (apply vG; (case h => assumption)) | (apply vK; (case h => assumption))); (case hk => exact kpA); (case he => omega); (case hp => omega); (case' g => intro hr_ hc_)) | ((first | (apply vJ; (case h => assumption)) | (apply vH; (case h => assumption)) | (apply vL; (case h => assumption))); (case hk => exact kpA); (case he => omega); (case' g => intro hr_ hc_)) | (apply drawS_auto mixed tt_ok; (· kernel_rfl)) | apply zZ | apply yA | apply yB | ((first | apply zA | apply zC | apply zE | apply zG); (· assumption)) | ((first | apply zB | apply zD | apply zF | apply zH); (· assumption)) | apply zM | apply zN | apply zO | apply zP | apply zQ | apply zR | apply zS | apply zT | apply zU | (apply zV; (· omega)) | (apply zW; (· omega)) | (apply zX; (· (first | omega | (dsimp only; omega)))) | (apply zY; (try (apply zY; apply zX; (· omega))); apply zX; (· omega); apply zX; (· (first | omega | (dsimp only; omega)))) | ((first | apply yJ | apply yK | apply yL | apply yM | apply yN | apply yO); (· exact hgA); (· exact hsA)) | ((first | apply zA | apply zC | apply zE | apply zG); (· omega)) | ((first | apply zB | apply zD | apply zF | apply zH); (· omega)) | ((first | apply zI | apply zK); (· assumption)) | ((first | apply zJ | apply zL); (· assumption)) | fail)
      conv => whnf
      exact h
  · have hne : xs ≠ ys := fun e => hl (by rw [e])
    rw [decide_eq_false hne] at h
    repeat' ((conv => whnf); first | ((first | (apply vB; (case h => assumption)) | (apply vA; (case h => assumption)) | (apply vC; (case h => assumption))); (case hk => exact kpA); (case he => omega)) | ((first | (apply vI; (case h => assumption)) | (apply vG; (case h => assumption)) | (apply vK; (case h => assumption))); (case hk => exact kpA); (case he => omega); (case hp => omega); (case' g => intro hr_ hc_)) | ((first | (apply vJ; (case h => assumption)) | (apply vH; (case h => assumption)) | (apply vL; (case h => assumption))); (case hk => exact kpA); (case he => omega); (case' g => intro hr_ hc_)) | (apply drawS_auto mixed tt_ok; (· kernel_rfl)) | apply zZ | apply yA | apply yB | ((first | apply zA | apply zC | apply zE | apply zG); (· assumption)) | ((first | apply zB | apply zD | apply zF | apply zH); (· assumption)) | apply zM | apply zN | apply zO | apply zP | apply zQ | apply zR | apply zS | apply zT | apply zU | (apply zV; (· omega)) | (apply zW; (· omega)) | (apply zX; (· (first | omega | (dsimp only; omega)))) | (apply zY; (try (apply zY; apply zX; (· omega))); apply zX; (· omega); apply zX; (· (first | omega | (dsimp only; omega)))) | ((first | apply yJ | apply yK | apply yL | apply yM | apply yN | apply yO); (· exact hgA); (· exact hsA)) | ((first | apply zA | apply zC | apply zE | apply zG); (· omega)) | ((first | apply zB | apply zD | apply zF | apply zH); (· omega)) | ((first | apply zI | apply zK); (· assumption)) | ((first | apply zJ | apply zL); (· assumption)) | fail)
    conv => whnf
    exact h
theorem sameBlock_c {a b : Option Addr} {c1 c2 : Nat} {xs ys : List (List Int)} {H : AHeap} {K : CK} (h1 : Mat H a xs) (h2 : Mat H b ys) (h : K (.returned (.bool (decide (xs = ys)))) H) :
    callS P (fnV 16) [.slice a xs.length c1, .slice b ys.length c2] H K := by
  refine callS_walk tt_ok Try.func16 rfl (by kernel_rfl) ?_
  conv => whnf
  repeat' ((conv => whnf); first | (apply sameMatrix_c; (· assumption); (· assumption)) | apply yA | apply yB | ((first | apply zA | apply zC | apply zE | apply zG); (· assumption)) | ((first | apply zB | apply zD | apply zF | apply zH); (· assumption)) | apply zM | apply zN | apply zO | apply zP | apply zQ | apply zR | apply zS | apply zT | apply zU | (apply zV; (· omega)) | (apply zW; (· omega)) | (apply zX; (· (first | omega | (dsimp only; omega)))) | (apply zY; (try (apply zY; apply zX; (· omega))); apply zX; (· omega); apply zX; (· (first | omega | (dsimp only; omega)))) | ((first | apply zA | apply zC | apply zE | apply zG); (· omega)) | ((first | apply zB | apply zD | apply zF | apply zH); (· omega)) | ((first | apply zI | apply zK); (· assumption)) | ((first | apply zJ | apply zL); (· assumption)) | fail)
  conv => whnf
  exact h

def lightB (b : List (List Int)) : Bool := decide (b.length ≤ 12) && b.all (fun r => decide (r.length ≤ 300))
theorem light_c {a : Option Addr} {c : Nat} {b : List (List Int)} {H : AHeap} {K : CK} (h1 : Mat H a b) (h : K (.returned (.bool (lightB b))) H) :
    callS P (fnV 9) [.slice a b.length c] H K := by
  have hl1 := h1.len
  refine callS_walk tt_ok Try.func9 rfl (by kernel_rfl) ?_
  conv => whnf
  repeat' ((conv => whnf); first | ((first | (apply vB; (case h => assumption)) | (apply vA; (case h => assumption)) | (apply vC; (case h => assumption))); (case hk => exact kpA); (case he => omega)) | ((first | (apply vI; (case h => assumption)) | (apply vG; (case h => assumption)) | (apply vK; (case h => assumption))); (case hk => exact kpA); (case he => omega); (case hp => omega); (case' g => intro hr_ hc_)) | ((first | (apply vJ; (case h => assumption)) | (apply vH; (case h => assumption)) | (apply vL; (case h => assumption))); (case hk => exact kpA); (case he => omega); (case' g => intro hr_ hc_)) | (apply drawS_auto mixed tt_ok; (· kernel_rfl)) | apply zZ | apply yA | apply yB | ((first | apply zA | apply zC | apply zE | apply zG); (· assumption)) | ((first | apply zB | apply zD | apply zF | apply zH); (· assumption)) | apply zM | apply zN | apply zO | apply zP | apply zQ | apply zR | apply zS | apply zT | apply zU | (apply zV; (· omega)) | (apply zW; (· omega)) | (apply zX; (· (first | omega | (dsimp only; omega)))) | (apply zY; (try (apply zY; apply zX; (· omega))); apply zX; (· omega); apply zX; (· (first | omega | (dsimp only; omega)))) | ((first | apply yJ | apply yK | apply yL | apply yM | apply yN | apply yO); (· exact hgA); (· exact hsA)) | ((first | apply zA | apply zC | apply zE | apply zG); (· omega)) | ((first | apply zB | apply zD | apply zF | apply zH); (· omega)) | ((first | apply zI | apply zK); (· assumption)) | ((first | apply zJ | apply zL); (· assumption)) | fail)
  conv => whnf
  refine loopS_mask tt_ok (fun (k : Nat) => [.k, .w, .w, .p (iv k), .w, .w, .w, .w, .w, .w, .w, .w, .w, .w, .w, .w, .w, .w, .w, .w, .w, .w, .w]) (fun (k : Nat) => H) (fun (k : Nat) => k ≤ b.length ∧ k ≤ 12 ∧ (b.take k).all (fun r => decide (r.length ≤ 300)) = true) (fun (k : Nat) => b.length - k) (0) (⟨by omega, by omega, by simp⟩) ?_ (fun k hk => ?_)
  · conv => whnf
    refine weakH_of (HW.refl _) ?_
    repeat' (first | exact WT.nil | refine WT.same ?_ | refine WT.drop ?_ | refine WT.int (by omega) ?_ | refine WT.eq (by assumption) ?_)
  obtain ⟨hk, hk2, he⟩ := hk
  by_cases hlt : k < b.length
  · by_cases hlt2 : k < 12
    · obtain ⟨i, o, rfl⟩ := h1.at hlt
      by_cases hx : b[k].length ≤ 300
      · skip
        repeat' ((conv => whnf); first | ((first | (apply vB; (case h => assumption)) | (apply vA; (case h => assumption)) | (apply vC; (case h => assumption))); (case hk => exact kpA); (case he => omega)) | ((first | (apply vI; (case h => assumption)) | (apply vG; (case h => assumption)) | (apply vK; (case h => assumption))); (case hk => exact kpA); (case he => omega); (case hp => omega); (case' g => intro hr_ hc_)) | ((first | (apply vJ; (case h => assumption)) | (apply vH; (case h => assumption)) | (apply vL; (case h => assumption))); (case hk => exact kpA); (case he => omega); (case' g => intro hr_ hc_)) | (apply drawS_auto mixed tt_ok; (· kernel_rfl)) | apply zZ | apply yA | apply yB | ((first | apply zA | apply zC | apply zE | apply zG); (· assumption)) | ((first | apply zB | apply zD | apply zF | apply zH); (· assumption)) | apply zM | apply zN | apply zO | apply zP | apply zQ | apply zR | apply zS | apply zT | apply zU | (apply zV; (· omega)) | (apply zW; (· omega)) | (apply zX; (· (first | omega | (dsimp only; omega)))) | (apply zY; (try (apply zY; apply zX; (· omega))); apply zX; (· omega); apply zX; (· (first | omega | (dsimp only; omega)))) | ((first | apply yJ | apply yK | apply yL | apply yM | apply yN | apply yO); (· exact hgA); (· exact hsA)) | ((first | apply zA | apply zC | apply zE | apply zG); (· omega)) | ((first | apply zB | apply zD | apply zF | apply zH); (· omega)) | ((first | apply zI | apply zK); (· assumption)) | ((first | apply zJ | apply zL); (· assumption)) | fail)
        conv => whnf
        refine ⟨k + 1, ⟨by omega, by omega, by rw [take_succ_of hlt, List.all_append, he]; simp [hx]⟩, by omega, ?_⟩
        conv => whnf
        refine weakH_of (HW.refl _) ?_
        repeat' (first | exact WT.nil | refine WT.same ?_ | refine WT.drop ?_ | refine WT.int (by omega) ?_ | refine WT.eq (by assumption) ?_)
      · have hf : lightB b = false := by
          have : b.all (fun r => decide (r.length ≤ 300)) = false := by
            rw [List.all_eq_false]; exact ⟨b[k], List.getElem_mem _, by simpa using hx⟩
          simp [lightB, this]
        rw [hf] at h
        repeat' ((conv => whnf); first | ((first | (apply vB; (case h => assumption)) | (apply vA; (case h => assumption)) | (apply vC; (case h => assumption))); (case hk => exact kpA); (case he => omega)) | ((first | (apply vI; (case h => assumption)) | (apply vG; (case h => assumption)) | (apply vK; (case h => assumption))); (case hk => exact kpA); (case he => omega); (case hp => omega); (case' g => intro hr_ hc_)) | ((first | (apply vJ; (case h => assumption)) | (apply vH; (case h => assumption)) | (apply vL; (case h => assumption))); (case hk => exact kpA); (case he => omega); (case' g => intro hr_ hc_)) | (apply drawS_auto mixed tt_ok; (· kernel_rfl)) | apply zZ | apply yA | apply yB | ((first | apply zA | apply zC | apply zE | apply zG); (· assumption)) | ((first | apply zB | apply zD | apply zF | apply zH); (· assumption)) | apply zM | apply zN | apply zO | apply zP | apply zQ | apply zR | apply zS | apply zT | apply zU | (apply zV; (· omega)) | (apply zW; (· omega)) | (apply zX; (· (first | omega | (dsimp only; omega)))) | (apply zY; (try (apply zY; apply zX; (· omega))); apply zX; (· omega); apply zX; (· (first | omega | (dsimp only; omega)))) | ((first | apply yJ | apply yK | apply yL | apply yM | apply yN | apply yO); (· exact hgA); (· exact hsA)) | ((first | apply zA | apply zC | apply zE | apply zG); (· omega)) | ((first | apply zB | apply zD | apply zF | apply zH); (· omega)) | ((first | apply zI | apply zK); (· assumption)) | ((first | apply zJ | apply zL); (· assumption)) | fail)
        conv => whnf
        exact h
    · have hf : lightB b = decide ((b.length : Int) ≤ 12) := by
        have h3 : ¬ b.length ≤ 12 := by omega
        have h4 : ¬ (b.length : Int) ≤ 12 := by omega
        simp [lightB, h3, h4]
      rw [hf] at h
      repeat' ((conv => whnf); first | ((first | (apply vB; (case h => assumption)) | (apply vA; (case h => assumption)) | (apply vC; (case h => assumption))); (case hk => exact kpA); (case he => omega)) | ((first | (apply vI; (case h => assumption)) | (apply vG; (case h => assumption)) | (apply vK; (case h => assumption))); (case hk => exact kpA); (case he => omega); (case hp => omega); (case' g => intro hr_ hc_)) | ((first | (apply vJ; (case h => assumption)) | (apply vH; (case h => assumption)) | (apply vL; (case h => assumption))); (case hk => exact kpA); (case he => omega); (case' g => intro hr_ hc_)) | (apply drawS_auto mixed tt_ok; (· kernel_rfl)) | apply zZ | apply yA | apply yB | ((first | apply zA | apply zC | apply zE | apply zG); (· assumption)) | ((first | apply zB | apply zD | apply zF | apply zH); (· assumption)) | apply zM | apply zN | apply zO | apply zP | apply zQ | apply zR | apply zS | apply zT | apply zU | (apply zV; (· omega)) | (apply zW; (· omega)) | (apply zX; (· (first | omega | (dsimp only; omega)))) | (apply zY; (try (apply zY; apply zX; (· omega))); apply zX; (· omega); apply zX; (· (first | omega | (dsimp only; omega)))) | ((first | apply yJ | apply yK | apply yL | apply yM | apply yN | apply yO); (· exact hgA); (· exact hsA)) | ((first | apply zA | apply zC | apply zE | apply zG); (· omega)) | ((first | apply zB | apply zD | apply zF | apply zH); (· omega)) | ((first | apply zI | apply zK); (· assumption)) | ((first | apply zJ | apply zL); (· assumption)) | fail)
      conv => whnf
      exact h
  · have hf : lightB b = decide ((b.length : Int) ≤ 12) := by
      rw [List.take_of_length_le (by omega)] at he
      simp only [lightB, he, Bool.and_true]
      exact decide_eq_decide.2 (by omega)
    rw [hf] at h
    repeat' ((conv => whnf); first | ((first | (apply vB; (case h => assumption)) | (apply vA; (case h => assumption)) | (apply vC; (case h => assumption))); (case hk => exact kpA); (case he => omega)) | ((first | (apply vI; (case h => assumption)) | (apply vG; (case h => assumption)) | (apply vK; (case h => assumption))); (case hk => exact kpA); (case he => omega); (case hp => omega); (case' g => intro hr_ hc_)) | ((first | (apply vJ; (case h => assumption)) | (apply vH; (case h => assumption)) | (apply vL; (case h => assumption))); (case hk => exact kpA); (case he => omega); (case' g => intro hr_ hc_)) | (apply drawS_auto mixed tt_ok; (· kernel_rfl)) | apply zZ | apply yA | apply yB | ((first | apply zA | apply zC | apply zE | apply zG); (· assumption)) | ((first | apply zB | apply zD | apply zF | apply zH); (· assumption)) | apply zM | apply zN | apply zO | apply zP | apply zQ | apply zR | apply zS | apply zT | apply zU | (apply zV; (· omega)) | (apply zW; (· omega)) | (apply zX; (· (first | omega | (dsimp only; omega)))) | (apply zY; (try (apply zY; apply zX; (· omega))); apply zX; (· omega); apply zX; (· (first | omega | (dsimp only; omega)))) | ((first | apply yJ | apply yK | apply yL | apply yM | apply yN | apply yO); (· exact hgA); (· exact hsA)) | ((first | apply zA | apply zC | apply zE | apply zG); (· omega)) | ((first | apply zB | apply zD | apply zF | apply zH); (· omega)) | ((first | apply zI | apply zK); (· assumption)) | ((first | apply zJ | apply zL); (· assumption)) | fail)
    conv => whnf
    exact h

def okS (x : Int) : Bool := decide (-8388607 ≤ x) && decide (x ≤ 8388607)
def rowOk (n : Nat) (r : List Int) : Bool := decide (r.length = n) && decide (r.length ≤ 4096) && r.all okS
def blockB (b : List (List Int)) : Bool := decide (1 ≤ b.length) && decide (b.length ≤ 8) && b.all (rowOk (b.headD []).length)
theorem headD_eq {b : List (List Int)} (h : 0 < b.length) : b.headD [] = b[0] := by cases b with
  | nil => simp at h
  | cons x xs => rfl
theorem not_blockB {b : List (List Int)} {k : Nat} (h : k < b.length) (hr : rowOk b[0].length b[k] = false) : blockB b = false := by
  have : b.all (rowOk (b.headD []).length) = false := by
    rw [List.all_eq_false]; exact ⟨b[k], List.getElem_mem _, by rw [headD_eq (by omega), hr]; simp⟩
  unfold blockB; rw [this, Bool.and_false]
theorem size_c {n : Int} (hn : inR n ∧ n ≠ -9223372036854775808) {H : AHeap} {K : CK} (h : K (.returned (iv (max n (0 - n)))) H) : callS P (fnV 51) [iv n] H K := by
  obtain ⟨⟨h1, h2⟩, h3⟩ := hn
  refine callS_walk tt_ok Try.func51 rfl (by kernel_rfl) ?_
  conv => whnf
  repeat' ((conv => whnf); first | apply yA | apply yB | ((first | apply zA | apply zC | apply zE | apply zG); (· assumption)) | ((first | apply zB | apply zD | apply zF | apply zH); (· assumption)) | apply zM | apply zN | apply zO | apply zP | apply zQ | apply zR | apply zS | apply zT | apply zU | (apply zV; (· omega)) | (apply zW; (· omega)) | (apply zX; (· (first | omega | (dsimp only; omega)))) | (apply zY; (try (apply zY; apply zX; (· omega))); apply zX; (· omega); apply zX; (· (first | omega | (dsimp only; omega)))) | ((first | apply zA | apply zC | apply zE | apply zG); (· omega)) | ((first | apply zB | apply zD | apply zF | apply zH); (· omega)) | ((first | apply zI | apply zK); (· assumption)) | ((first | apply zJ | apply zL); (· assumption)) | fail)
  conv => whnf
  exact h
/-- the least number has no size: it stays as it is -/
theorem size_least {H : AHeap} {K : CK} (h : K (.returned (iv (-9223372036854775808))) H) : callS P (fnV 51) [iv (-9223372036854775808)] H K := by
  refine callS_walk tt_ok Try.func51 rfl (by kernel_rfl) ?_
  conv => whnf
  repeat' ((conv => whnf); first | refine intK_of ?_ | apply yA | apply yB | ((first | apply zA | apply zC | apply zE | apply zG); (· assumption)) | ((first | apply zB | apply zD | apply zF | apply zH); (· assumption)) | apply zM | apply zN | apply zO | apply zP | apply zQ | apply zR | apply zS | apply zT | apply zU | (apply zV; (· omega)) | (apply zW; (· omega)) | (apply zX; (· (first | omega | (dsimp only; omega)))) | (apply zY; (try (apply zY; apply zX; (· omega))); apply zX; (· omega); apply zX; (· (first | omega | (dsimp only; omega)))) | ((first | apply zA | apply zC | apply zE | apply zG); (· omega)) | ((first | apply zB | apply zD | apply zF | apply zH); (· omega)) | ((first | apply zI | apply zK); (· assumption)) | ((first | apply zJ | apply zL); (· assumption)) | fail)
  conv => whnf
  exact h
theorem badSample_c {n : Int} (hn : inR n) {H : AHeap} {K : CK} (h : K (.returned (.bool (!okS n))) H) : callS P (fnV 67) [iv n] H K := by
  refine callS_walk tt_ok Try.func67 rfl (by kernel_rfl) ?_
  conv => whnf
  by_cases hl : n = -9223372036854775808
  · subst hl
    repeat' ((conv => whnf); first | refine size_least ?_ | (apply drawS_auto mixed tt_ok; (· kernel_rfl)) | apply zZ | apply yA | apply yB | ((first | apply zA | apply zC | apply zE | apply zG); (· assumption)) | ((first | apply zB | apply zD | apply zF | apply zH); (· assumption)) | apply zM | apply zN | apply zO | apply zP | apply zQ | apply zR | apply zS | apply zT | apply zU | (apply zV; (· omega)) | (apply zW; (· omega)) | (apply zX; (· (first | omega | (dsimp only; omega)))) | (apply zY; (try (apply zY; apply zX; (· omega))); apply zX; (· omega); apply zX; (· (first | omega | (dsimp only; omega)))) | ((first | apply zA | apply zC | apply zE | apply zG); (· omega)) | ((first | apply zB | apply zD | apply zF | apply zH); (· omega)) | ((first | apply zI | apply zK); (· assumption)) | ((first | apply zJ | apply zL); (· assumption)) | fail)
    conv => whnf
    exact h
  · obtain ⟨h1, h2⟩ := id hn
    repeat' ((conv => whnf); first | refine size_c ⟨hn, hl⟩ ?_ | (apply drawS_auto mixed tt_ok; (· kernel_rfl)) | apply zZ | apply yA | apply yB | ((first | apply zA | apply zC | apply zE | apply zG); (· assumption)) | ((first | apply zB | apply zD | apply zF | apply zH); (· assumption)) | apply zM | apply zN | apply zO | apply zP | apply zQ | apply zR | apply zS | apply zT | apply zU | (apply zV; (· omega)) | (apply zW; (· omega)) | (apply zX; (· (first | omega | (dsimp only; omega)))) | (apply zY; (try (apply zY; apply zX; (· omega))); apply zX; (· omega); apply zX; (· (first | omega | (dsimp only; omega)))) | ((first | apply zA | apply zC | apply zE | apply zG); (· omega)) | ((first | apply zB | apply zD | apply zF | apply zH); (· omega)) | ((first | apply zI | apply zK); (· assumption)) | ((first | apply zJ | apply zL); (· assumption)) | fail)
    conv => whnf
    by_cases h3 : max n (0 - n) > 8388607
    · have hf : (!okS n) = true := by simp [okS]; omega
      rw [hf] at h
      repeat' ((conv => whnf); first | (apply drawS_auto mixed tt_ok; (· kernel_rfl)) | apply zZ | apply yA | apply yB | ((first | apply zA | apply zC | apply zE | apply zG); (· assumption)) | ((first | apply zB | apply zD | apply zF | apply zH); (· assumption)) | apply zM | apply zN | apply zO | apply zP | apply zQ | apply zR | apply zS | apply zT | apply zU | (apply zV; (· omega)) | (apply zW; (· omega)) | (apply zX; (· (first | omega | (dsimp only; omega)))) | (apply zY; (try (apply zY; apply zX; (· omega))); apply zX; (· omega); apply zX; (· (first | omega | (dsimp only; omega)))) | ((first | apply zA | apply zC | apply zE | apply zG); (· omega)) | ((first | apply zB | apply zD | apply zF | apply zH); (· omega)) | ((first | apply zI | apply zK); (· assumption)) | ((first | apply zJ | apply zL); (· assumption)) | fail)
      conv => whnf
      exact h
    · have h5 : n ≤ 8388607 := by omega
      have hf : (!okS n) = decide (n < -8388607) := by by_cases h4 : n < -8388607 <;> simp [okS, h4, h5]; omega
      rw [hf] at h
      repeat' ((conv => whnf); first | (apply drawS_auto mixed tt_ok; (· kernel_rfl)) | apply zZ | apply yA | apply yB | ((first | apply zA | apply zC | apply zE | apply zG); (· assumption)) | ((first | apply zB | apply zD | apply zF | apply zH); (· assumption)) | apply zM | apply zN | apply zO | apply zP | apply zQ | apply zR | apply zS | apply zT | apply zU | (apply zV; (· omega)) | (apply zW; (· omega)) | (apply zX; (· (first | omega | (dsimp only; omega)))) | (apply zY; (try (apply zY; apply zX; (· omega))); apply zX; (· omega); apply zX; (· (first | omega | (dsimp only; omega)))) | ((first | apply zA | apply zC | apply zE | apply zG); (· omega)) | ((first | apply zB | apply zD | apply zF | apply zH); (· omega)) | ((first | apply zI | apply zK); (· assumption)) | ((first | apply zJ | apply zL); (· assumption)) | fail)
      conv => whnf
      exact h
end Go.Abs
