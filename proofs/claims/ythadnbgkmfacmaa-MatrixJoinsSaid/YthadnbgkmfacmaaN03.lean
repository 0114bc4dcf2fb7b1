/- Contracts and laws that the laws of matrices share. -/
import Derived.Test.YthadnbgkmfacmaaF03
import Derived.Test.YthadnbgkmfacmaaG03
set_option linter.all false
set_option maxHeartbeats 2000000
set_option maxRecDepth 20000
namespace Go.Abs
open Go Go.Proofs
theorem awake_c {H : AHeap} {K : CK} (h : K (.returned (.bool true)) H) : callS P (fnV 10) [] H K :=
  callS_closed mixed tt_ok (n := 60) (by kernel_rfl) h
theorem small_c {a : Option Addr} {c : Nat} {m : List (List Int)} {H : AHeap} {K : CK} (h1 : Mat H a m) (h : ∀ v, K (.returned (.bool v)) H) : callS P (fnV 8) [.slice a m.length c] H K := by
  have hl1 := h1.len
  refine callS_walk tt_ok Try.func8 rfl (by kernel_rfl) ?_
  conv => whnf
  repeat' ((conv => whnf); first | ((first | (apply vB; (case h => assumption)) | (apply vA; (case h => assumption)) | (apply vC; (case h => assumption))); (case hk => exact kpA); (case he => omega)) | ((first | (apply vI; (case h => assumption)) | (apply vG; (case h => assumption)) | (apply vK; (case h => assumption))); (case hk => exact kpA); (case he => omega); (case hp => omega); (case' g => intro hr_ hc_)) | ((first | (apply vJ; (case h => assumption)) | (apply vH; (case h => assumption)) | (apply vL; (case h => assumption))); (case hk => exact kpA); (case he => omega); (case' g => intro hr_ hc_)) | (apply drawS_auto mixed tt_ok; (· kernel_rfl)) | apply zZ | apply yA | apply yB | ((first | apply zA | apply zC | apply zE | apply zG); (· assumption)) | ((first | apply zB | apply zD | apply zF | apply zH); (· assumption)) | apply zM | apply zN | apply zO | apply zP | apply zQ | apply zR | apply zS | apply zT | apply zU | (apply zV; (· omega)) | (apply zW; (· omega)) | (apply zX; (· (first | omega | (dsimp only; omega)))) | (apply zY; (try (apply zY; apply zX; (· omega))); apply zX; (· omega); apply zX; (· (first | omega | (dsimp only; omega)))) | ((first | apply yJ | apply yK | apply yL | apply yM | apply yN | apply yO); (· exact hgA); (· exact hsA)) | (apply yNP; (· exact hgA); (· exact hsA)) | ((first | apply zA | apply zC | apply zE | apply zG); (· omega)) | ((first | apply zB | apply zD | apply zF | apply zH); (· omega)) | ((first | apply zI | apply zK); (· assumption)) | ((first | apply zJ | apply zL); (· assumption)) | fail)
  conv => whnf
  refine loopS_mask tt_ok (fun (k : Nat) => [.k, .w, .w, .p (iv k), .w, .w, .w, .w, .w, .w, .w, .w, .w, .w, .w, .w, .w, .w, .w, .w, .w, .w, .w]) (fun (k : Nat) => H) (fun (k : Nat) => k ≤ m.length ∧ k ≤ 12) (fun (k : Nat) => m.length - k) (0) (⟨by omega, by omega⟩) ?_ (fun k hk => ?_)
  · conv => whnf
    refine weakH_of (HW.refl _) ?_
    repeat' (first | exact WT.nil | refine WT.same ?_ | refine WT.drop ?_ | refine WT.int (by omega) ?_ | refine WT.eq (by assumption) ?_ | refine WT.bl (by first | assumption | (symm; assumption)) ?_ | refine WT.vv (by assumption) ?_)
  obtain ⟨hk, hk2⟩ := hk
  by_cases hlt : k < m.length
  · by_cases hlt2 : k < 12
    · obtain ⟨i, o, rfl⟩ := h1.at hlt
      by_cases hx : 12 < m[k].length
      · skip
        repeat' ((conv => whnf); first | ((first | (apply vB; (case h => assumption)) | (apply vA; (case h => assumption)) | (apply vC; (case h => assumption))); (case hk => exact kpA); (case he => omega)) | ((first | (apply vI; (case h => assumption)) | (apply vG; (case h => assumption)) | (apply vK; (case h => assumption))); (case hk => exact kpA); (case he => omega); (case hp => omega); (case' g => intro hr_ hc_)) | ((first | (apply vJ; (case h => assumption)) | (apply vH; (case h => assumption)) | (apply vL; (case h => assumption))); (case hk => exact kpA); (case he => omega); (case' g => intro hr_ hc_)) | (apply drawS_auto mixed tt_ok; (· kernel_rfl)) | apply zZ | apply yA | apply yB | ((first | apply zA | apply zC | apply zE | apply zG); (· assumption)) | ((first | apply zB | apply zD | apply zF | apply zH); (· assumption)) | apply zM | apply zN | apply zO | apply zP | apply zQ | apply zR | apply zS | apply zT | apply zU | (apply zV; (· omega)) | (apply zW; (· omega)) | (apply zX; (· (first | omega | (dsimp only; omega)))) | (apply zY; (try (apply zY; apply zX; (· omega))); apply zX; (· omega); apply zX; (· (first | omega | (dsimp only; omega)))) | ((first | apply yJ | apply yK | apply yL | apply yM | apply yN | apply yO); (· exact hgA); (· exact hsA)) | (apply yNP; (· exact hgA); (· exact hsA)) | ((first | apply zA | apply zC | apply zE | apply zG); (· omega)) | ((first | apply zB | apply zD | apply zF | apply zH); (· omega)) | ((first | apply zI | apply zK); (· assumption)) | ((first | apply zJ | apply zL); (· assumption)) | fail)
        conv => whnf
        exact h false
      · skip
        repeat' ((conv => whnf); first | ((first | (apply vB; (case h => assumption)) | (apply vA; (case h => assumption)) | (apply vC; (case h => assumption))); (case hk => exact kpA); (case he => omega)) | ((first | (apply vI; (case h => assumption)) | (apply vG; (case h => assumption)) | (apply vK; (case h => assumption))); (case hk => exact kpA); (case he => omega); (case hp => omega); (case' g => intro hr_ hc_)) | ((first | (apply vJ; (case h => assumption)) | (apply vH; (case h => assumption)) | (apply vL; (case h => assumption))); (case hk => exact kpA); (case he => omega); (case' g => intro hr_ hc_)) | (apply drawS_auto mixed tt_ok; (· kernel_rfl)) | apply zZ | apply yA | apply yB | ((first | apply zA | apply zC | apply zE | apply zG); (· assumption)) | ((first | apply zB | apply zD | apply zF | apply zH); (· assumption)) | apply zM | apply zN | apply zO | apply zP | apply zQ | apply zR | apply zS | apply zT | apply zU | (apply zV; (· omega)) | (apply zW; (· omega)) | (apply zX; (· (first | omega | (dsimp only; omega)))) | (apply zY; (try (apply zY; apply zX; (· omega))); apply zX; (· omega); apply zX; (· (first | omega | (dsimp only; omega)))) | ((first | apply yJ | apply yK | apply yL | apply yM | apply yN | apply yO); (· exact hgA); (· exact hsA)) | (apply yNP; (· exact hgA); (· exact hsA)) | ((first | apply zA | apply zC | apply zE | apply zG); (· omega)) | ((first | apply zB | apply zD | apply zF | apply zH); (· omega)) | ((first | apply zI | apply zK); (· assumption)) | ((first | apply zJ | apply zL); (· assumption)) | fail)
        conv => whnf
        refine ⟨k + 1, ⟨by omega, by omega⟩, by omega, ?_⟩
        conv => whnf
        refine weakH_of (HW.refl _) ?_
        repeat' (first | exact WT.nil | refine WT.same ?_ | refine WT.drop ?_ | refine WT.int (by omega) ?_ | refine WT.eq (by assumption) ?_ | refine WT.bl (by first | assumption | (symm; assumption)) ?_ | refine WT.vv (by assumption) ?_)
    · skip
      repeat' ((conv => whnf); first | ((first | (apply vB; (case h => assumption)) | (apply vA; (case h => assumption)) | (apply vC; (case h => assumption))); (case hk => exact kpA); (case he => omega)) | ((first | (apply vI; (case h => assumption)) | (apply vG; (case h => assumption)) | (apply vK; (case h => assumption))); (case hk => exact kpA); (case he => omega); (case hp => omega); (case' g => intro hr_ hc_)) | ((first | (apply vJ; (case h => assumption)) | (apply vH; (case h => assumption)) | (apply vL; (case h => assumption))); (case hk => exact kpA); (case he => omega); (case' g => intro hr_ hc_)) | (apply drawS_auto mixed tt_ok; (· kernel_rfl)) | apply zZ | apply yA | apply yB | ((first | apply zA | apply zC | apply zE | apply zG); (· assumption)) | ((first | apply zB | apply zD | apply zF | apply zH); (· assumption)) | apply zM | apply zN | apply zO | apply zP | apply zQ | apply zR | apply zS | apply zT | apply zU | (apply zV; (· omega)) | (apply zW; (· omega)) | (apply zX; (· (first | omega | (dsimp only; omega)))) | (apply zY; (try (apply zY; apply zX; (· omega))); apply zX; (· omega); apply zX; (· (first | omega | (dsimp only; omega)))) | ((first | apply yJ | apply yK | apply yL | apply yM | apply yN | apply yO); (· exact hgA); (· exact hsA)) | (apply yNP; (· exact hgA); (· exact hsA)) | ((first | apply zA | apply zC | apply zE | apply zG); (· omega)) | ((first | apply zB | apply zD | apply zF | apply zH); (· omega)) | ((first | apply zI | apply zK); (· assumption)) | ((first | apply zJ | apply zL); (· assumption)) | fail)
      conv => whnf
      exact h _
  · skip
    repeat' ((conv => whnf); first | ((first | (apply vB; (case h => assumption)) | (apply vA; (case h => assumption)) | (apply vC; (case h => assumption))); (case hk => exact kpA); (case he => omega)) | ((first | (apply vI; (case h => assumption)) | (apply vG; (case h => assumption)) | (apply vK; (case h => assumption))); (case hk => exact kpA); (case he => omega); (case hp => omega); (case' g => intro hr_ hc_)) | ((first | (apply vJ; (case h => assumption)) | (apply vH; (case h => assumption)) | (apply vL; (case h => assumption))); (case hk => exact kpA); (case he => omega); (case' g => intro hr_ hc_)) | (apply drawS_auto mixed tt_ok; (· kernel_rfl)) | apply zZ | apply yA | apply yB | ((first | apply zA | apply zC | apply zE | apply zG); (· assumption)) | ((first | apply zB | apply zD | apply zF | apply zH); (· assumption)) | apply zM | apply zN | apply zO | apply zP | apply zQ | apply zR | apply zS | apply zT | apply zU | (apply zV; (· omega)) | (apply zW; (· omega)) | (apply zX; (· (first | omega | (dsimp only; omega)))) | (apply zY; (try (apply zY; apply zX; (· omega))); apply zX; (· omega); apply zX; (· (first | omega | (dsimp only; omega)))) | ((first | apply yJ | apply yK | apply yL | apply yM | apply yN | apply yO); (· exact hgA); (· exact hsA)) | (apply yNP; (· exact hgA); (· exact hsA)) | ((first | apply zA | apply zC | apply zE | apply zG); (· omega)) | ((first | apply zB | apply zD | apply zF | apply zH); (· omega)) | ((first | apply zI | apply zK); (· assumption)) | ((first | apply zJ | apply zL); (· assumption)) | fail)
    conv => whnf
    exact h _
theorem app_block {m b : List (List Int)} (hm : matB m = true) (hb : blockB b = true) : blockB (matF (appF m b) m.length (framesB b)) = true := by
  obtain ⟨⟨hm1, hm8⟩, _, _⟩ := matB_rows hm
  obtain ⟨⟨hb1, hb8⟩, hbr⟩ := blockB_rows hb
  have hfl : framesB b ≤ 4096 := by
    have hb0 : 0 < b.length := hb1
    rw [frames0 hb0]
    exact (hbr b[0] (List.getElem_mem _)).2.1
  have hh : ((matF (appF m b) m.length (framesB b)).headD []).length = framesB b := by
    have h0 : 0 < (matF (appF m b) m.length (framesB b)).length := by rw [matF_len]; omega
    rw [headD_eq h0, matF_get, rowF_len]
  unfold blockB
  rw [hh, matF_len, decide_eq_true hm1, decide_eq_true hm8, Bool.true_and, Bool.true_and]
  refine List.all_eq_true.2 fun r hr => ?_
  obtain ⟨i, hi, rfl⟩ := mem_matF hr
  unfold rowOk
  rw [rowF_len, decide_eq_true rfl, decide_eq_true hfl, Bool.true_and, Bool.true_and]
  refine List.all_eq_true.2 fun x hx => ?_
  obtain ⟨c, hc, rfl⟩ := mem_rowF hx
  unfold okS appF clipF
  rw [decide_eq_true (by omega), decide_eq_true (by omega)]
  rfl
theorem refPlain_no {p : Option Addr} {c1 : Nat} {m : List (List Int)} (hv : matB m = false) {H : AHeap} {K : CK} (hm : Mat H p m) (h : K (.returned (.tuple #[.bool false, iv 1])) H) : callS P (fnV 14) [.slice p m.length c1] H K := by
  refine callS_walk tt_ok Try.func14 rfl (by kernel_rfl) ?_
  conv => whnf
  repeat' ((conv => whnf); first | refine refValidM_v hm hv ?_ | ((first | (apply vB; (case h => assumption)) | (apply vA; (case h => assumption)) | (apply vC; (case h => assumption))); (case hk => exact kpA); (case he => omega)) | ((first | (apply vI; (case h => assumption)) | (apply vG; (case h => assumption)) | (apply vK; (case h => assumption))); (case hk => exact kpA); (case he => omega); (case hp => omega); (case' g => intro hr_ hc_)) | ((first | (apply vJ; (case h => assumption)) | (apply vH; (case h => assumption)) | (apply vL; (case h => assumption))); (case hk => exact kpA); (case he => omega); (case' g => intro hr_ hc_)) | (apply drawS_auto mixed tt_ok; (· kernel_rfl)) | apply zZ | apply yA | apply yB | ((first | apply zA | apply zC | apply zE | apply zG); (· assumption)) | ((first | apply zB | apply zD | apply zF | apply zH); (· assumption)) | apply zM | apply zN | apply zO | apply zP | apply zQ | apply zR | apply zS | apply zT | apply zU | (apply zV; (· omega)) | (apply zW; (· omega)) | (apply zX; (· (first | omega | (dsimp only; omega)))) | (apply zY; (try (apply zY; apply zX; (· omega))); apply zX; (· omega); apply zX; (· (first | omega | (dsimp only; omega)))) | ((first | apply yJ | apply yK | apply yL | apply yM | apply yN | apply yO); (· exact hgA); (· exact hsA)) | (apply yNP; (· exact hgA); (· exact hsA)) | ((first | apply zA | apply zC | apply zE | apply zG); (· omega)) | ((first | apply zB | apply zD | apply zF | apply zH); (· omega)) | ((first | apply zI | apply zK); (· assumption)) | ((first | apply zJ | apply zL); (· assumption)) | fail)
  conv => whnf
  exact h
/-! sums -/
def sumN (n : Nat) (g : Nat → Int) : Int := ((List.range n).map g).sum
theorem sumN_zero (g : Nat → Int) : sumN 0 g = 0 := rfl
theorem sumN_succ (n : Nat) (g : Nat → Int) : sumN (n + 1) g = sumN n g + g n := by simp [sumN, List.range_succ]
theorem dotN_sum (m b : List (List Int)) (i f n : Nat) : dotN m b i f n = sumN n fun k => at2 m i k * at2 b k f := rfl
theorem sumN_congr {g h : Nat → Int} : ∀ {n : Nat}, (∀ k, k < n → g k = h k) → sumN n g = sumN n h
  | 0, _ => rfl
  | n + 1, e => by rw [sumN_succ, sumN_succ, sumN_congr (fun k hk => e k (by omega)), e n (by omega)]
theorem sumN_null {g : Nat → Int} : ∀ {n : Nat}, (∀ k, k < n → g k = 0) → sumN n g = 0
  | 0, _ => rfl
  | n + 1, e => by rw [sumN_succ, sumN_null (fun k hk => e k (by omega)), e n (by omega)]; rfl
theorem sumN_one {g : Nat → Int} {k0 : Nat} : ∀ {n : Nat}, k0 < n → (∀ k, k < n → k ≠ k0 → g k = 0) → sumN n g = g k0
  | n + 1, h, e => by
    rw [sumN_succ]
    by_cases hk : k0 = n
    · subst hk
      rw [sumN_null (fun k hk => e k (by omega) (by omega)), Int.zero_add]
    · rw [sumN_one (by omega) (fun k hk hne => e k (by omega) hne), e n (by omega) (fun h => hk h.symm), Int.add_zero]
theorem sumN_mul (c : Int) (g : Nat → Int) : ∀ n : Nat, c * sumN n g = sumN n fun k => c * g k
  | 0 => by simp [sumN_zero]
  | n + 1 => by rw [sumN_succ, sumN_succ, Int.mul_add, sumN_mul c g n]
theorem sumN_mulr (c : Int) (g : Nat → Int) (n : Nat) : sumN n g * c = sumN n fun k => g k * c := by
  rw [Int.mul_comm, sumN_mul]
  exact sumN_congr fun k _ => Int.mul_comm _ _
theorem sumN_add (g h : Nat → Int) : ∀ n : Nat, sumN n (fun k => g k + h k) = sumN n g + sumN n h
  | 0 => rfl
  | n + 1 => by rw [sumN_succ, sumN_succ, sumN_succ, sumN_add g h n]; omega
theorem sumN_comm (g : Nat → Nat → Int) (m : Nat) : ∀ n : Nat, sumN n (fun j => sumN m fun k => g j k) = sumN m fun k => sumN n fun j => g j k
  | 0 => by rw [sumN_zero, sumN_null fun k _ => sumN_zero _]
  | n + 1 => by
    rw [sumN_succ, sumN_comm g m n, ← sumN_add]
    exact sumN_congr fun k _ => (sumN_succ n _).symm
theorem rnd_one (v : Int) : rnd (v * 65536) 65536 = v := by
  have h2 : (65536 : Int).tdiv 2 = 32768 := rfl
  unfold rnd
  rw [h2]
  by_cases h : v * 65536 < 0
  · rw [if_pos h, Int.tdiv_eq_ediv_of_nonneg (by omega)]; omega
  · rw [if_neg h, Int.tdiv_eq_ediv_of_nonneg (by omega)]; omega
theorem rnd_null : rnd 0 65536 = 0 := by decide
theorem join_mat {S Fm : List (List Int)} (hS : matB S = true) (hF : matB Fm = true) : matB (matF (joF S Fm) S.length (framesB Fm)) = true := by
  obtain ⟨h1, _, _⟩ := matB_rows hS
  obtain ⟨_, hf, _⟩ := matB_rows hF
  have h0 : 0 < (matF (joF S Fm) S.length (framesB Fm)).length := by rw [matF_len]; omega
  have hh : framesB (matF (joF S Fm) S.length (framesB Fm)) = framesB Fm := by
    rw [frames0 h0, matF_get, rowF_len]
  unfold matB
  rw [hh, matF_len, decide_eq_true h1, decide_eq_true hf, Bool.true_and, Bool.true_and]
  refine List.all_eq_true.2 fun r hr => ?_
  obtain ⟨i, hi, rfl⟩ := mem_matF hr
  rw [rowF_len, decide_eq_true rfl, Bool.true_and]
  refine List.all_eq_true.2 fun x hx => ?_
  obtain ⟨c, hc, rfl⟩ := mem_rowF hx
  rw [wOk_t]
  unfold joF clipG
  omega
/-- a plain row: nothing, or One at one place -/
theorem plain_row {m : List (List Int)} (hp : Plain m) (i : Nat) : (∀ k, at2 m i k = 0) ∨ ∃ k0, at2 m i k0 = 65536 ∧ ∀ k, k ≠ k0 → at2 m i k = 0 := by
  by_cases h : ∃ k0, at2 m i k0 ≠ 0
  · obtain ⟨k0, h0⟩ := h
    exact .inr ⟨k0, (hp i k0 h0).2.2, (hp i k0 h0).1⟩
  · refine .inl fun k => ?_
    by_cases e : at2 m i k = 0
    · exact e
    · exact absurd ⟨k, e⟩ h
theorem plain_col {m : List (List Int)} (hp : Plain m) (k : Nat) : (∀ i, at2 m i k = 0) ∨ ∃ i0, at2 m i0 k = 65536 ∧ ∀ i, i ≠ i0 → at2 m i k = 0 := by
  by_cases h : ∃ i0, at2 m i0 k ≠ 0
  · obtain ⟨i0, h0⟩ := h
    exact .inr ⟨i0, (hp i0 k h0).2.2, (hp i0 k h0).2.1⟩
  · refine .inl fun i => ?_
    by_cases e : at2 m i k = 0
    · exact e
    · exact absurd ⟨i, e⟩ h
theorem at2_lt {m : List (List Int)} {i k : Nat} (h : at2 m i k ≠ 0) : ∃ hi : i < m.length, k < m[i].length := by
  by_cases hi : i < m.length
  · refine ⟨hi, ?_⟩
    by_cases hk : k < m[i].length
    · exact hk
    · exact absurd (at2_col hi hk) h
  · exact absurd (at2_row hi) h
theorem joins_eq {S Fm b : List (List Int)} (hS : matB S = true) (hF : matB Fm = true) (hb : blockB b = true) (h1 : framesB S = Fm.length) (h2 : framesB Fm = b.length) (hp : Plain Fm ∨ Plain S) {i f : Nat} (hi : i < S.length) (hf : f < framesB b) :
    appF S (matF (appF Fm b) Fm.length (framesB b)) i f = appF (matF (joF S Fm) S.length (framesB Fm)) b i f := by
  obtain ⟨_, _, hSr⟩ := matB_rows hS
  obtain ⟨_, _, hFr⟩ := matB_rows hF
  obtain ⟨_, hbr⟩ := blockB_rows hb
  have bS := at2_bdB (B := 655360) (by omega) (fun r hr => (hSr r hr).2)
  have bF := at2_bdB (B := 655360) (by omega) (fun r hr => (hFr r hr).2)
  have bb := at2_bdB (B := 8388607) (by omega) (fun r hr => (hbr r hr).2.2)
  have ex : ∀ j, j < Fm.length → at2 (matF (appF Fm b) Fm.length (framesB b)) j f = appF Fm b j f := fun j hj => at2_matF hj hf
  have ej : ∀ k, k < framesB Fm → at2 (matF (joF S Fm) S.length (framesB Fm)) i k = joF S Fm i k := fun k hk => at2_matF hi hk
  unfold appF
  rw [matF_len, dotN_sum, dotN_sum]
  have e1 : sumN Fm.length (fun j => at2 S i j * at2 (matF (fun i f => clipF (rnd (dotN Fm b i f b.length) 65536)) Fm.length (framesB b)) j f) = sumN Fm.length fun j => at2 S i j * appF Fm b j f :=
    sumN_congr fun j hj => by rw [← ex j hj]; rfl
  have e2 : sumN b.length (fun k => at2 (matF (joF S Fm) S.length (framesB Fm)) i k * at2 b k f) = sumN b.length fun k => joF S Fm i k * at2 b k f :=
    sumN_congr fun k hk => by rw [ej k (by omega)]
  rw [e1, e2]
  rcases hp with hp | hp
  · have hx : ∀ j, appF Fm b j f = sumN b.length fun k => (if at2 Fm j k = 0 then 0 else 1) * at2 b k f := fun j => by
      unfold appF
      rw [dotN_sum]
      rcases plain_row hp j with h0 | ⟨k0, h0, hne⟩
      · rw [sumN_null (fun k _ => by rw [h0 k, Int.zero_mul]), sumN_null (fun k _ => by rw [if_pos (h0 k), Int.zero_mul]), rnd_null]
        decide
      · obtain ⟨hj, hk⟩ := at2_lt (show at2 Fm j k0 ≠ 0 by omega)
        have hk0 : k0 < b.length := by have := (hFr Fm[j] (List.getElem_mem _)).1; omega
        rw [sumN_one hk0 (fun k _ hkn => by rw [hne k hkn, Int.zero_mul]), sumN_one hk0 (fun k _ hkn => by rw [if_pos (hne k hkn), Int.zero_mul]), h0, if_neg (by omega), Int.one_mul, Int.mul_comm, rnd_one]
        have := bb k0 f
        unfold clipF
        omega
    have hj : ∀ k, joF S Fm i k = sumN Fm.length fun j => at2 S i j * (if at2 Fm j k = 0 then 0 else 1) := fun k => by
      unfold joF
      rw [dotN_sum]
      rcases plain_col hp k with h0 | ⟨j0, h0, hne⟩
      · rw [sumN_null (fun j _ => by rw [h0 j, Int.mul_zero]), sumN_null (fun j _ => by rw [if_pos (h0 j), Int.mul_zero]), rnd_null]
        decide
      · obtain ⟨hj0, _⟩ := at2_lt (show at2 Fm j0 k ≠ 0 by omega)
        rw [sumN_one hj0 (fun j _ hjn => by rw [hne j hjn, Int.mul_zero]), sumN_one hj0 (fun j _ hjn => by rw [if_pos (hne j hjn), Int.mul_zero]), h0, if_neg (by omega), Int.mul_one, rnd_one]
        have := bS i j0
        unfold clipG
        omega
    congr 2
    have a1 : (sumN Fm.length fun j => at2 S i j * appF Fm b j f) = sumN Fm.length fun j => sumN b.length fun k => at2 S i j * ((if at2 Fm j k = 0 then 0 else 1) * at2 b k f) :=
      sumN_congr fun j _ => by rw [hx j, sumN_mul]
    have a2 : (sumN b.length fun k => joF S Fm i k * at2 b k f) = sumN b.length fun k => sumN Fm.length fun j => at2 S i j * ((if at2 Fm j k = 0 then 0 else 1) * at2 b k f) :=
      sumN_congr fun k _ => by rw [hj k, sumN_mulr]; exact sumN_congr fun j _ => Int.mul_assoc _ _ _
    rw [a1, a2]
    exact sumN_comm _ _ _
  · rcases plain_row hp i with h0 | ⟨j0, h0, hne⟩
    · have hj : ∀ k, joF S Fm i k = 0 := fun k => by
        unfold joF
        rw [dotN_sum, sumN_null (fun j _ => by rw [h0 j, Int.zero_mul]), rnd_null]
        decide
      rw [sumN_null (fun j _ => by rw [h0 j, Int.zero_mul]), sumN_null (fun k _ => by rw [hj k, Int.zero_mul])]
    · obtain ⟨_, hj1⟩ := at2_lt (show at2 S i j0 ≠ 0 by omega)
      have hj0 : j0 < Fm.length := by have := (hSr S[i] (List.getElem_mem _)).1; omega
      have hj : ∀ k, joF S Fm i k = at2 Fm j0 k := fun k => by
        unfold joF
        rw [dotN_sum, sumN_one hj0 (fun j _ hjn => by rw [hne j hjn, Int.zero_mul]), h0, Int.mul_comm, rnd_one]
        have := bF j0 k
        unfold clipG
        omega
      rw [sumN_one hj0 (fun j _ hjn => by rw [hne j hjn, Int.zero_mul]), h0, Int.mul_comm, rnd_one]
      have a1 : (sumN b.length fun k => joF S Fm i k * at2 b k f) = dotN Fm b j0 f b.length := by
        rw [dotN_sum]
        exact sumN_congr fun k _ => by rw [hj k]
      rw [a1]
      unfold appF clipF
      omega
end Go.Abs
