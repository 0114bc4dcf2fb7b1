/- The statement MatrixNormal is proved: for every input the law returns true and its arguments read as before; no conditions. -/
import Derived.Test.YthadnbgkmfacmaaE03
import Derived.Test.YthadnbgkmfacmaaRows
set_option linter.all false
set_option maxHeartbeats 2000000
set_option maxRecDepth 20000
namespace Go.Abs
open Go Go.Proofs Go.Proofs.Ythadnbgkmfacmaa Go.ChangeAt Go.RowKit Go.ChangeShapes Go.WideShapes
theorem Try.own2 : ownKnob Try.prog.godebug = none := by kernel_rfl
theorem awake_c {H : AHeap} {K : CK} (h : K (.returned (.bool true)) H) : callS P (fnV 10) [] H K :=
  callS_closed mixed tt_ok (n := 60) (by kernel_rfl) h
theorem small_c {a : Option Addr} {c : Nat} {m : List (List Int)} {H : AHeap} {K : CK} (h1 : Mat H a m) (h : ∀ v, K (.returned (.bool v)) H) : callS P (fnV 8) [.slice a m.length c] H K := by
  have hl1 := h1.len
  refine callS_walk tt_ok Try.func8 rfl (by kernel_rfl) ?_
  conv => whnf
  repeat' ((conv => whnf); first | ((first | (apply vB; (case h => assumption)) | (apply vA; (case h => assumption)) | (apply vC; (case h => assumption))); (case hk => exact kpA); (case he => omega)) | ((first | (apply vI; (case h => assumption)) | (apply vG; (case h => assumption)) | (apply vK; (case h => assumption))); (case hk => exact kpA); (case he => omega); (case hp => omega); (case' g => intro hr_ hc_)) | ((first | (apply vJ; (case h => assumption)) | (apply vH; (case h => assumption)) | (apply vL; (case h => assumption))); (case hk => exact kpA); (case he => omega); (case' g => intro hr_ hc_)) | (apply drawS_auto mixed tt_ok; (· kernel_rfl)) | apply zZ | apply yA | apply yB | ((first | apply zA | apply zC | apply zE | apply zG); (· assumption)) | ((first | apply zB | apply zD | apply zF | apply zH); (· assumption)) | apply zM | apply zN | apply zO | apply zP | apply zQ | apply zR | apply zS | apply zT | apply zU | (apply zV; (· omega)) | (apply zW; (· omega)) | (apply zX; (· (first | omega | (dsimp only; omega)))) | (apply zY; (try (apply zY; apply zX; (· omega))); apply zX; (· omega); apply zX; (· (first | omega | (dsimp only; omega)))) | ((first | apply yJ | apply yK | apply yL | apply yM | apply yN | apply yO); (· exact hgA); (· exact hsA)) | (apply yNP; (· exact hgA); (· exact hsA)) | ((first | apply zA | apply zC | apply zE | apply zG); (· omega)) | ((first | apply zB | apply zD | apply zF | apply zH); (· omega)) | ((first | apply zI | apply zK); (· assumption)) | ((first | apply zJ | apply zL); (· assumption)) | fail)
  conv => whnf
  refine loopS_mask tt_ok (fun (k : Nat) => [.k, .w, .w, .p (iv k), .w, .w, .w, .w, .w, .w, .w, .w, .w, .w, .w, .w, .w, .w, .w, .w, .w, .w, .w]) (fun (k : Nat) => H) (fun (k : Nat) => k ≤ m.length ∧ k ≤ 12) (fun (k : Nat) => m.length - k) (0) (⟨by omega, by omega⟩) ?_ (fun k hk => ?_)
  · conv => whnf
    refine weakH_of (HW.refl _) ?_
    repeat' (first | exact WT.nil | refine WT.same ?_ | refine WT.drop ?_ | refine WT.int (by omega) ?_ | refine WT.eq (by assumption) ?_ | refine WT.bl (by first | assumption | (symm; assumption)) ?_ | refine WT.vv (by assumption) ?_)
  obtain ⟨hk, hk2⟩ := hk
  by_cases hlt : k < m.length
  · by_cases hlt2 : k < 12
    · obtain ⟨i, o, rfl⟩ := h1.at hlt
      by_cases hx : 12 < m[k].length
      · skip
        repeat' ((conv => whnf); first | ((first | (apply vB; (case h => assumption)) | (apply vA; (case h => assumption)) | (apply vC; (case h => assumption))); (case hk => exact kpA); (case he => omega)) | ((first | (apply vI; (case h => assumption)) | (apply vG; (case h => assumption)) | (apply vK; (case h => assumption))); (case hk => exact kpA); (case he => omega); (case hp => omega); (case' g => intro hr_ hc_)) | ((first | (apply vJ; (case h => assumption)) | (apply vH; (case h => assumption)) | (apply vL; (case h => assumption))); (case hk => exact kpA); (case he => omega); (case' g => intro hr_ hc_)) | (apply drawS_auto mixed tt_ok; (· kernel_rfl)) | apply zZ | apply yA | apply yB | ((first | apply zA | apply zC | apply zE | apply zG); (· assumption)) | ((first | apply zB | apply zD | apply zF | apply zH); (· assumption)) | apply zM | apply zN | apply zO | apply zP | apply zQ | apply zR | apply zS | apply zT | apply zU | (apply zV; (· omega)) | (apply zW; (· omega)) | (apply zX; (· (first | omega | (dsimp only; omega)))) | (apply zY; (try (apply zY; apply zX; (· omega))); apply zX; (· omega); apply zX; (· (first | omega | (dsimp only; omega)))) | ((first | apply yJ | apply yK | apply yL | apply yM | apply yN | apply yO); (· exact hgA); (· exact hsA)) | (apply yNP; (· exact hgA); (· exact hsA)) | ((first | apply zA | apply zC | apply zE | apply zG); (· omega)) | ((first | apply zB | apply zD | apply zF | apply zH); (· omega)) | ((first | apply zI | apply zK); (· assumption)) | ((first | apply zJ | apply zL); (· assumption)) | fail)
        conv => whnf
        exact h false
      · skip
        repeat' ((conv => whnf); first | ((first | (apply vB; (case h => assumption)) | (apply vA; (case h => assumption)) | (apply vC; (case h => assumption))); (case hk => exact kpA); (case he => omega)) | ((first | (apply vI; (case h => assumption)) | (apply vG; (case h => assumption)) | (apply vK; (case h => assumption))); (case hk => exact kpA); (case he => omega); (case hp => omega); (case' g => intro hr_ hc_)) | ((first | (apply vJ; (case h => assumption)) | (apply vH; (case h => assumption)) | (apply vL; (case h => assumption))); (case hk => exact kpA); (case he => omega); (case' g => intro hr_ hc_)) | (apply drawS_auto mixed tt_ok; (· kernel_rfl)) | apply zZ | apply yA | apply yB | ((first | apply zA | apply zC | apply zE | apply zG); (· assumption)) | ((first | apply zB | apply zD | apply zF | apply zH); (· assumption)) | apply zM | apply zN | apply zO | apply zP | apply zQ | apply zR | apply zS | apply zT | apply zU | (apply zV; (· omega)) | (apply zW; (· omega)) | (apply zX; (· (first | omega | (dsimp only; omega)))) | (apply zY; (try (apply zY; apply zX; (· omega))); apply zX; (· omega); apply zX; (· (first | omega | (dsimp only; omega)))) | ((first | apply yJ | apply yK | apply yL | apply yM | apply yN | apply yO); (· exact hgA); (· exact hsA)) | (apply yNP; (· exact hgA); (· exact hsA)) | ((first | apply zA | apply zC | apply zE | apply zG); (· omega)) | ((first | apply zB | apply zD | apply zF | apply zH); (· omega)) | ((first | apply zI | apply zK); (· assumption)) | ((first | apply zJ | apply zL); (· assumption)) | fail)
        conv => whnf
        refine ⟨k + 1, ⟨by omega, by omega⟩, by omega, ?_⟩
        conv => whnf
        refine weakH_of (HW.refl _) ?_
        repeat' (first | exact WT.nil | refine WT.same ?_ | refine WT.drop ?_ | refine WT.int (by omega) ?_ | refine WT.eq (by assumption) ?_ | refine WT.bl (by first | assumption | (symm; assumption)) ?_ | refine WT.vv (by assumption) ?_)
    · skip
      repeat' ((conv => whnf); first | ((first | (apply vB; (case h => assumption)) | (apply vA; (case h => assumption)) | (apply vC; (case h => assumption))); (case hk => exact kpA); (case he => omega)) | ((first | (apply vI; (case h => assumption)) | (apply vG; (case h => assumption)) | (apply vK; (case h => assumption))); (case hk => exact kpA); (case he => omega); (case hp => omega); (case' g => intro hr_ hc_)) | ((first | (apply vJ; (case h => assumption)) | (apply vH; (case h => assumption)) | (apply vL; (case h => assumption))); (case hk => exact kpA); (case he => omega); (case' g => intro hr_ hc_)) | (apply drawS_auto mixed tt_ok; (· kernel_rfl)) | apply zZ | apply yA | apply yB | ((first | apply zA | apply zC | apply zE | apply zG); (· assumption)) | ((first | apply zB | apply zD | apply zF | apply zH); (· assumption)) | apply zM | apply zN | apply zO | apply zP | apply zQ | apply zR | apply zS | apply zT | apply zU | (apply zV; (· omega)) | (apply zW; (· omega)) | (apply zX; (· (first | omega | (dsimp only; omega)))) | (apply zY; (try (apply zY; apply zX; (· omega))); apply zX; (· omega); apply zX; (· (first | omega | (dsimp only; omega)))) | ((first | apply yJ | apply yK | apply yL | apply yM | apply yN | apply yO); (· exact hgA); (· exact hsA)) | (apply yNP; (· exact hgA); (· exact hsA)) | ((first | apply zA | apply zC | apply zE | apply zG); (· omega)) | ((first | apply zB | apply zD | apply zF | apply zH); (· omega)) | ((first | apply zI | apply zK); (· assumption)) | ((first | apply zJ | apply zL); (· assumption)) | fail)
      conv => whnf
      exact h _
  · skip
    repeat' ((conv => whnf); first | ((first | (apply vB; (case h => assumption)) | (apply vA; (case h => assumption)) | (apply vC; (case h => assumption))); (case hk => exact kpA); (case he => omega)) | ((first | (apply vI; (case h => assumption)) | (apply vG; (case h => assumption)) | (apply vK; (case h => assumption))); (case hk => exact kpA); (case he => omega); (case hp => omega); (case' g => intro hr_ hc_)) | ((first | (apply vJ; (case h => assumption)) | (apply vH; (case h => assumption)) | (apply vL; (case h => assumption))); (case hk => exact kpA); (case he => omega); (case' g => intro hr_ hc_)) | (apply drawS_auto mixed tt_ok; (· kernel_rfl)) | apply zZ | apply yA | apply yB | ((first | apply zA | apply zC | apply zE | apply zG); (· assumption)) | ((first | apply zB | apply zD | apply zF | apply zH); (· assumption)) | apply zM | apply zN | apply zO | apply zP | apply zQ | apply zR | apply zS | apply zT | apply zU | (apply zV; (· omega)) | (apply zW; (· omega)) | (apply zX; (· (first | omega | (dsimp only; omega)))) | (apply zY; (try (apply zY; apply zX; (· omega))); apply zX; (· omega); apply zX; (· (first | omega | (dsimp only; omega)))) | ((first | apply yJ | apply yK | apply yL | apply yM | apply yN | apply yO); (· exact hgA); (· exact hsA)) | (apply yNP; (· exact hgA); (· exact hsA)) | ((first | apply zA | apply zC | apply zE | apply zG); (· omega)) | ((first | apply zB | apply zD | apply zF | apply zH); (· omega)) | ((first | apply zI | apply zK); (· assumption)) | ((first | apply zJ | apply zL); (· assumption)) | fail)
    conv => whnf
    exact h _
/-! rows that are normal -/
def norRow (r : List Int) : List Int := r.map fun x => if 65536 < sumAbs r then (x * 65536).tdiv (sumAbs r) else x
theorem tdiv_abs {a n : Int} (hn : 0 < n) : absI (a.tdiv n) * n ≤ absI a := by
  rcases Int.le_total 0 a with h1 | h1
  · have h2 : a.tdiv n = a / n := Int.tdiv_eq_ediv_of_nonneg h1
    have h3 := Int.ediv_nonneg h1 (show 0 ≤ n by omega)
    have h4 := Int.ediv_mul_le a (show n ≠ 0 by omega)
    have e1 : absI (a.tdiv n) = a / n := by rw [h2]; unfold absI; omega
    have e2 : absI a = a := by unfold absI; omega
    rw [e1, e2]; exact h4
  · have e : a.tdiv n = -((-a).tdiv n) := by rw [Int.neg_tdiv, Int.neg_neg]
    have h2 : (-a).tdiv n = -a / n := Int.tdiv_eq_ediv_of_nonneg (by omega)
    have h3 := Int.ediv_nonneg (show 0 ≤ -a by omega) (show 0 ≤ n by omega)
    have h4 := Int.ediv_mul_le (-a) (show n ≠ 0 by omega)
    have e1 : absI (a.tdiv n) = -a / n := by rw [e, h2]; unfold absI; omega
    have e2 : absI a = -a := by unfold absI; omega
    rw [e1, e2]; exact h4
theorem sumAbs_cons (x : Int) (r : List Int) : sumAbs (x :: r) = absI x + sumAbs r := by simp [sumAbs]
theorem sum_scaled {S : Int} (hS : 0 < S) : ∀ r : List Int, sumAbs (r.map fun x => (x * 65536).tdiv S) * S ≤ sumAbs r * 65536
  | [] => by simp [sumAbs]
  | x :: r => by
    have ih := sum_scaled hS r
    have h1 := tdiv_abs (a := x * 65536) hS
    have h2 : absI (x * 65536) = absI x * 65536 := by unfold absI; omega
    rw [List.map_cons, sumAbs_cons, sumAbs_cons, Int.add_mul]
    omega
theorem norRow_sum (r : List Int) : sumAbs (norRow r) ≤ 65536 := by
  unfold norRow
  by_cases h : 65536 < sumAbs r
  · have h1 := sum_scaled (S := sumAbs r) (by omega) r
    simp only [if_pos h]
    rw [Int.mul_comm (sumAbs r) 65536] at h1
    exact Int.le_of_mul_le_mul_right h1 (by omega)
  · simp only [if_neg h, List.map_id']
    omega
theorem norRow_same {r : List Int} (h : sumAbs r ≤ 65536) : norRow r = r := by
  unfold norRow
  have : ¬ 65536 < sumAbs r := by omega
  simp only [if_neg this, List.map_id']
theorem absI_le {x B : Int} : absI x ≤ B ↔ -B ≤ x ∧ x ≤ B := by unfold absI; omega
theorem norRow_bd {r : List Int} {B : Int} (hB : 0 ≤ B) (h : ∀ x ∈ r, -B ≤ x ∧ x ≤ B) : ∀ x ∈ norRow r, -B ≤ x ∧ x ≤ B := by
  intro y hy
  obtain ⟨x, hx, rfl⟩ := List.mem_map.1 hy
  have hb := h x hx
  by_cases hs : 65536 < sumAbs r
  · rw [if_pos hs]
    have h1 := tdiv_abs (a := x * 65536) (n := sumAbs r) (by omega)
    have h2 : absI (x * 65536) = absI x * 65536 := by unfold absI; omega
    have h3 := absI_le.2 hb
    have h0 : 0 ≤ absI x := by unfold absI; omega
    have h4 : absI x * 65536 ≤ absI x * sumAbs r := Int.mul_le_mul_of_nonneg_left (by omega) h0
    have h5 : absI ((x * 65536).tdiv (sumAbs r)) ≤ absI x := Int.le_of_mul_le_mul_right (by omega) (show 0 < sumAbs r by omega)
    exact absI_le.1 (by omega)
  · rw [if_neg hs]; exact hb
theorem norM_eq {m : List (List Int)} (hv : matB m = true) : norM m = m.map norRow := by
  obtain ⟨⟨hm1, hm8⟩, _, hmr⟩ := matB_rows hv
  unfold norM
  apply List.ext_getElem
  · simp
  · intro i h1 h2
    have hi : i < m.length := by simpa using h1
    have hl := (hmr m[i] (List.getElem_mem _)).1
    rw [List.getElem_map, matF_get]
    apply List.ext_getElem
    · rw [rowF_len, norRow, List.length_map, hl]
    · intro c h3 h4
      have hc : c < m[i].length := by rw [rowF_len] at h3; omega
      rw [rowF_get]
      simp only [norRow, List.getElem_map, norF, getD_at hi, at2_eq hi hc]
/-! blocks turned round -/
theorem turn_at (b : List (List Int)) (k f : Nat) : at2 (turnM b) k f = 0 - at2 b k f := by
  unfold at2 turnM
  by_cases hk : k < b.length
  · have e1 : (b.map fun r => r.map fun x => 0 - x).getD k [] = b[k].map fun x => 0 - x := by simp [List.getD, hk]
    have e2 : b.getD k [] = b[k] := by simp [List.getD, hk]
    rw [e1, e2]
    by_cases hf : f < b[k].length
    · simp [List.getD, hf]
    · simp [List.getD, hf]
  · simp [List.getD, hk]
theorem turn_dot (m b : List (List Int)) (i f : Nat) : ∀ n, dotN m (turnM b) i f n = 0 - dotN m b i f n
  | 0 => rfl
  | n + 1 => by
    rw [dotN_succ, dotN_succ, turn_dot m b i f n, turn_at, Int.mul_sub, Int.mul_zero]
    omega
theorem rnd_odd (a : Int) : rnd (0 - a) 65536 = 0 - rnd a 65536 := by
  have h2 : (65536 : Int).tdiv 2 = 32768 := rfl
  unfold rnd
  rw [h2]
  by_cases h : a < 0
  · rw [if_pos h, if_neg (by omega)]
    omega
  · by_cases h0 : a = 0
    · subst h0; decide
    · rw [if_neg h, if_pos (by omega)]
      have e : 0 - (0 - a) + 32768 = a + 32768 := by omega
      rw [e]
theorem clipF_odd (x : Int) : clipF (0 - x) = 0 - clipF x := by unfold clipF; omega
theorem turn_app (m b : List (List Int)) (i f : Nat) : appF m (turnM b) i f = 0 - appF m b i f := by
  unfold appF
  have hl : (turnM b).length = b.length := by simp [turnM]
  rw [hl, turn_dot, rnd_odd, clipF_odd]
theorem turn_len (b : List (List Int)) : (turnM b).length = b.length := by simp [turnM]
theorem turn_frames (b : List (List Int)) : framesB (turnM b) = framesB b := by
  cases b with
  | nil => rfl
  | cons r b => simp [framesB, turnM]
theorem okS_turn (x : Int) : okS (0 - x) = okS x := by
  unfold okS
  rw [Bool.and_comm]
  congr 1
  · exact decide_eq_decide.2 (by omega)
  · exact decide_eq_decide.2 (by omega)
theorem turn_block {b : List (List Int)} (h : blockB b = true) : blockB (turnM b) = true := by
  unfold blockB at h ⊢
  have hf := turn_frames b
  unfold framesB at hf
  rw [turn_len, hf]
  simp only [Bool.and_eq_true] at h ⊢
  refine ⟨h.1, List.all_eq_true.2 fun r hr => ?_⟩
  obtain ⟨r0, hr0, rfl⟩ := List.mem_map.1 hr
  have := List.all_eq_true.1 h.2 r0 hr0
  unfold rowOk at this ⊢
  simp only [Bool.and_eq_true, List.length_map] at this ⊢
  refine ⟨this.1, List.all_eq_true.2 fun x hx => ?_⟩
  obtain ⟨y, hy, rfl⟩ := List.mem_map.1 hx
  rw [okS_turn]
  exact List.all_eq_true.1 this.2 y hy
theorem turn_matF (f : Nat → Nat → Int) (n L : Nat) : turnM (matF f n L) = matF (fun i c => 0 - f i c) n L := by
  unfold turnM matF rowF
  simp [List.map_map, Function.comp_def]
theorem app_block {m b : List (List Int)} (hm : matB m = true) (hb : blockB b = true) : blockB (matF (appF m b) m.length (framesB b)) = true := by
  obtain ⟨⟨hm1, hm8⟩, _, _⟩ := matB_rows hm
  obtain ⟨⟨hb1, hb8⟩, hbr⟩ := blockB_rows hb
  have hfl : framesB b ≤ 4096 := by
    have hb0 : 0 < b.length := hb1
    rw [frames0 hb0]
    exact (hbr b[0] (List.getElem_mem _)).2.1
  have hh : ((matF (appF m b) m.length (framesB b)).headD []).length = framesB b := by
    have h0 : 0 < (matF (appF m b) m.length (framesB b)).length := by rw [matF_len]; omega
    rw [headD_eq h0, matF_get, rowF_len]
  unfold blockB
  rw [hh, matF_len, decide_eq_true hm1, decide_eq_true hm8, Bool.true_and, Bool.true_and]
  refine List.all_eq_true.2 fun r hr => ?_
  obtain ⟨i, hi, rfl⟩ := mem_matF hr
  unfold rowOk
  rw [rowF_len, decide_eq_true rfl, decide_eq_true hfl, Bool.true_and, Bool.true_and]
  refine List.all_eq_true.2 fun x hx => ?_
  obtain ⟨c, hc, rfl⟩ := mem_rowF hx
  unfold okS appF clipF
  rw [decide_eq_true (by omega), decide_eq_true (by omega)]
  rfl
theorem turned_v {p : Option Addr} {c : Nat} {b : List (List Int)} (hv : blockB b = true) {H : AHeap} {K : CK} (hb : Mat H p b)
    (h : ∀ H' p' c', H.le H' → Mat H' p' (turnM b) → K (.returned (.slice p' (turnM b).length c')) H') : callS P (fnV 21) [.slice p b.length c] H K :=
  turned_c hv hb fun H' p' c' a d => by have := h H' p' c' a d; rw [turn_len] at this; exact this

theorem normal_law {p q : Option Addr} {c1 c2 : Nat} {m b : List (List Int)} {H : AHeap} (hm : Mat H p m) (hb : Mat H q b) :
    ACall P 4 [.slice p m.length c1, .slice q b.length c2] H (fun e _ => e = .returned (.bool true)) := by
  refine acall_walk tt_ok Try.func4 rfl ?_
  conv => whnf
  repeat' ((conv => whnf); first | refine small_c hm (fun v => ?_) | ((first | (apply vB; (case h => assumption)) | (apply vA; (case h => assumption)) | (apply vC; (case h => assumption))); (case hk => exact kpA); (case he => omega)) | ((first | (apply vI; (case h => assumption)) | (apply vG; (case h => assumption)) | (apply vK; (case h => assumption))); (case hk => exact kpA); (case he => omega); (case hp => omega); (case' g => intro hr_ hc_)) | ((first | (apply vJ; (case h => assumption)) | (apply vH; (case h => assumption)) | (apply vL; (case h => assumption))); (case hk => exact kpA); (case he => omega); (case' g => intro hr_ hc_)) | (apply drawS_auto mixed tt_ok; (· kernel_rfl)) | apply zZ | apply yA | apply yB | ((first | apply zA | apply zC | apply zE | apply zG); (· assumption)) | ((first | apply zB | apply zD | apply zF | apply zH); (· assumption)) | apply zM | apply zN | apply zO | apply zP | apply zQ | apply zR | apply zS | apply zT | apply zU | (apply zV; (· omega)) | (apply zW; (· omega)) | (apply zX; (· (first | omega | (dsimp only; omega)))) | (apply zY; (try (apply zY; apply zX; (· omega))); apply zX; (· omega); apply zX; (· (first | omega | (dsimp only; omega)))) | ((first | apply yJ | apply yK | apply yL | apply yM | apply yN | apply yO); (· exact hgA); (· exact hsA)) | (apply yNP; (· exact hgA); (· exact hsA)) | ((first | apply zA | apply zC | apply zE | apply zG); (· omega)) | ((first | apply zB | apply zD | apply zF | apply zH); (· omega)) | ((first | apply zI | apply zK); (· assumption)) | ((first | apply zJ | apply zL); (· assumption)) | fail)
  conv => whnf
  cases v with
  | false =>
    repeat' ((conv => whnf); first | (apply awake_c) | ((first | (apply vB; (case h => assumption)) | (apply vA; (case h => assumption)) | (apply vC; (case h => assumption))); (case hk => exact kpA); (case he => omega)) | ((first | (apply vI; (case h => assumption)) | (apply vG; (case h => assumption)) | (apply vK; (case h => assumption))); (case hk => exact kpA); (case he => omega); (case hp => omega); (case' g => intro hr_ hc_)) | ((first | (apply vJ; (case h => assumption)) | (apply vH; (case h => assumption)) | (apply vL; (case h => assumption))); (case hk => exact kpA); (case he => omega); (case' g => intro hr_ hc_)) | (apply drawS_auto mixed tt_ok; (· kernel_rfl)) | apply zZ | apply yA | apply yB | ((first | apply zA | apply zC | apply zE | apply zG); (· assumption)) | ((first | apply zB | apply zD | apply zF | apply zH); (· assumption)) | apply zM | apply zN | apply zO | apply zP | apply zQ | apply zR | apply zS | apply zT | apply zU | (apply zV; (· omega)) | (apply zW; (· omega)) | (apply zX; (· (first | omega | (dsimp only; omega)))) | (apply zY; (try (apply zY; apply zX; (· omega))); apply zX; (· omega); apply zX; (· (first | omega | (dsimp only; omega)))) | ((first | apply yJ | apply yK | apply yL | apply yM | apply yN | apply yO); (· exact hgA); (· exact hsA)) | (apply yNP; (· exact hgA); (· exact hsA)) | ((first | apply zA | apply zC | apply zE | apply zG); (· omega)) | ((first | apply zB | apply zD | apply zF | apply zH); (· omega)) | ((first | apply zI | apply zK); (· assumption)) | ((first | apply zJ | apply zL); (· assumption)) | fail)
    conv => whnf
  | true =>
    cases hlb : lightB b with
    | false =>
      repeat' ((conv => whnf); first | (apply light_v; (· exact mtA); (· assumption)) | (apply awake_c) | ((first | (apply vB; (case h => assumption)) | (apply vA; (case h => assumption)) | (apply vC; (case h => assumption))); (case hk => exact kpA); (case he => omega)) | ((first | (apply vI; (case h => assumption)) | (apply vG; (case h => assumption)) | (apply vK; (case h => assumption))); (case hk => exact kpA); (case he => omega); (case hp => omega); (case' g => intro hr_ hc_)) | ((first | (apply vJ; (case h => assumption)) | (apply vH; (case h => assumption)) | (apply vL; (case h => assumption))); (case hk => exact kpA); (case he => omega); (case' g => intro hr_ hc_)) | (apply drawS_auto mixed tt_ok; (· kernel_rfl)) | apply zZ | apply yA | apply yB | ((first | apply zA | apply zC | apply zE | apply zG); (· assumption)) | ((first | apply zB | apply zD | apply zF | apply zH); (· assumption)) | apply zM | apply zN | apply zO | apply zP | apply zQ | apply zR | apply zS | apply zT | apply zU | (apply zV; (· omega)) | (apply zW; (· omega)) | (apply zX; (· (first | omega | (dsimp only; omega)))) | (apply zY; (try (apply zY; apply zX; (· omega))); apply zX; (· omega); apply zX; (· (first | omega | (dsimp only; omega)))) | ((first | apply yJ | apply yK | apply yL | apply yM | apply yN | apply yO); (· exact hgA); (· exact hsA)) | (apply yNP; (· exact hgA); (· exact hsA)) | ((first | apply zA | apply zC | apply zE | apply zG); (· omega)) | ((first | apply zB | apply zD | apply zF | apply zH); (· omega)) | ((first | apply zI | apply zK); (· assumption)) | ((first | apply zJ | apply zL); (· assumption)) | fail)
      conv => whnf
    | true =>
      cases hvm : matB m with
      | false =>
        repeat' ((conv => whnf); first | (apply light_v; (· exact mtA); (· assumption)) | refine refValidM_v hm hvm ?_ | (apply awake_c) | ((first | (apply vB; (case h => assumption)) | (apply vA; (case h => assumption)) | (apply vC; (case h => assumption))); (case hk => exact kpA); (case he => omega)) | ((first | (apply vI; (case h => assumption)) | (apply vG; (case h => assumption)) | (apply vK; (case h => assumption))); (case hk => exact kpA); (case he => omega); (case hp => omega); (case' g => intro hr_ hc_)) | ((first | (apply vJ; (case h => assumption)) | (apply vH; (case h => assumption)) | (apply vL; (case h => assumption))); (case hk => exact kpA); (case he => omega); (case' g => intro hr_ hc_)) | (apply drawS_auto mixed tt_ok; (· kernel_rfl)) | apply zZ | apply yA | apply yB | ((first | apply zA | apply zC | apply zE | apply zG); (· assumption)) | ((first | apply zB | apply zD | apply zF | apply zH); (· assumption)) | apply zM | apply zN | apply zO | apply zP | apply zQ | apply zR | apply zS | apply zT | apply zU | (apply zV; (· omega)) | (apply zW; (· omega)) | (apply zX; (· (first | omega | (dsimp only; omega)))) | (apply zY; (try (apply zY; apply zX; (· omega))); apply zX; (· omega); apply zX; (· (first | omega | (dsimp only; omega)))) | ((first | apply yJ | apply yK | apply yL | apply yM | apply yN | apply yO); (· exact hgA); (· exact hsA)) | (apply yNP; (· exact hgA); (· exact hsA)) | ((first | apply zA | apply zC | apply zE | apply zG); (· omega)) | ((first | apply zB | apply zD | apply zF | apply zH); (· omega)) | ((first | apply zI | apply zK); (· assumption)) | ((first | apply zJ | apply zL); (· assumption)) | fail)
        conv => whnf
      | true =>
        obtain ⟨⟨hm1, hm8⟩, ⟨hw1, hw8⟩, hmr⟩ := matB_rows hvm
        have hm0 : 0 < m.length := hm1
        have hne := norM_eq hvm
        have hnl : (norM m).length = m.length := by rw [hne, List.length_map]
        repeat' ((conv => whnf); first | (apply light_v; (· exact mtA); (· assumption)) | refine refValidM_v hm hvm ?_ | refine normal_c hvm hm (fun H1 p1 d1 hle1 hm1' => ?_) | ((first | (apply vB; (case h => assumption)) | (apply vA; (case h => assumption)) | (apply vC; (case h => assumption))); (case hk => exact kpA); (case he => omega)) | ((first | (apply vI; (case h => assumption)) | (apply vG; (case h => assumption)) | (apply vK; (case h => assumption))); (case hk => exact kpA); (case he => omega); (case hp => omega); (case' g => intro hr_ hc_)) | ((first | (apply vJ; (case h => assumption)) | (apply vH; (case h => assumption)) | (apply vL; (case h => assumption))); (case hk => exact kpA); (case he => omega); (case' g => intro hr_ hc_)) | (apply drawS_auto mixed tt_ok; (· kernel_rfl)) | apply zZ | apply yA | apply yB | ((first | apply zA | apply zC | apply zE | apply zG); (· assumption)) | ((first | apply zB | apply zD | apply zF | apply zH); (· assumption)) | apply zM | apply zN | apply zO | apply zP | apply zQ | apply zR | apply zS | apply zT | apply zU | (apply zV; (· omega)) | (apply zW; (· omega)) | (apply zX; (· (first | omega | (dsimp only; omega)))) | (apply zY; (try (apply zY; apply zX; (· omega))); apply zX; (· omega); apply zX; (· (first | omega | (dsimp only; omega)))) | ((first | apply yJ | apply yK | apply yL | apply yM | apply yN | apply yO); (· exact hgA); (· exact hsA)) | (apply yNP; (· exact hgA); (· exact hsA)) | ((first | apply zA | apply zC | apply zE | apply zG); (· omega)) | ((first | apply zB | apply zD | apply zF | apply zH); (· omega)) | ((first | apply zI | apply zK); (· assumption)) | ((first | apply zJ | apply zL); (· assumption)) | fail)
        conv => whnf
        have hmk := hm.kp hle1.kp
        refine loopS_mask tt_ok (fun (i : Nat) => [.k, .k, .w, .w, .w, .k, .w, .p (iv i), .w, .w, .w, .w, .w, .w, .w, .w, .w, .w, .w, .w, .w, .w, .w, .w, .w, .w, .w, .w, .w, .w, .w, .w, .w, .w, .w, .w, .w, .w, .w, .w, .w, .w, .w, .w, .w, .w, .w, .w, .w, .w, .w, .w, .w, .w, .w, .w, .w, .w, .w, .w, .w, .w, .w, .w, .w, .w, .w, .w, .w, .w, .w, .w, .w, .w, .w, .w, .w, .w, .w, .w, .w, .w, .w, .w, .w, .w, .w, .w, .w, .w, .w, .w, .w, .w, .w, .w, .w]) (fun (i : Nat) => H1) (fun (i : Nat) => i ≤ m.length) (fun (i : Nat) => m.length - i) (0) (by omega) ?_ (fun i hi => ?_)
        · conv => whnf
          refine weakH_of (HW.refl _) ?_
          repeat' (first | exact WT.nil | refine WT.same ?_ | refine WT.drop ?_ | refine WT.int (by omega) ?_ | refine WT.eq (by assumption) ?_ | refine WT.bl (by first | assumption | (symm; assumption)) ?_ | refine WT.vv (by assumption) ?_)
        by_cases hlt : i < m.length
        · have hlt2 : i < (norM m).length := by omega
          obtain ⟨hml, hmb⟩ := hmr m[i] (List.getElem_mem _)
          have hni : (norM m)[i] = norRow m[i] := by simp only [hne, List.getElem_map]
          have hnb := norRow_bd (by omega) hmb
          have hnlen : (norM m)[i].length = m[i].length := by rw [hni, norRow, List.length_map]
          have hs1 := norRow_sum m[i]
          rw [← hni] at hs1 hnb
          obtain ⟨i1, o1, rfl⟩ := hm1'.at hlt2
          obtain ⟨i2, o2, rfl⟩ := hmk.at hlt
          by_cases hsm : sumAbs m[i] ≤ 65536
          · have hsame : (norM m)[i] = m[i] := by rw [hni, norRow_same hsm]
            repeat' ((conv => whnf); first | refine refSum_c (r := (norM m)[i]) (by omega) (fun x hx => by have := hnb x hx; omega) mtA ?_ | refine refSum_c (r := m[i]) (by omega) (fun x hx => by have := hmb x hx; omega) mtA ?_ | refine sameRow_c (xs := (norM m)[i]) (ys := m[i]) mtA mtA ?_; rw [decide_eq_true hsame] | ((first | (apply vB; (case h => assumption)) | (apply vA; (case h => assumption)) | (apply vC; (case h => assumption))); (case hk => exact kpA); (case he => omega)) | ((first | (apply vI; (case h => assumption)) | (apply vG; (case h => assumption)) | (apply vK; (case h => assumption))); (case hk => exact kpA); (case he => omega); (case hp => omega); (case' g => intro hr_ hc_)) | ((first | (apply vJ; (case h => assumption)) | (apply vH; (case h => assumption)) | (apply vL; (case h => assumption))); (case hk => exact kpA); (case he => omega); (case' g => intro hr_ hc_)) | (apply drawS_auto mixed tt_ok; (· kernel_rfl)) | apply zZ | apply yA | apply yB | ((first | apply zA | apply zC | apply zE | apply zG); (· assumption)) | ((first | apply zB | apply zD | apply zF | apply zH); (· assumption)) | apply zM | apply zN | apply zO | apply zP | apply zQ | apply zR | apply zS | apply zT | apply zU | (apply zV; (· omega)) | (apply zW; (· omega)) | (apply zX; (· (first | omega | (dsimp only; omega)))) | (apply zY; (try (apply zY; apply zX; (· omega))); apply zX; (· omega); apply zX; (· (first | omega | (dsimp only; omega)))) | ((first | apply yJ | apply yK | apply yL | apply yM | apply yN | apply yO); (· exact hgA); (· exact hsA)) | (apply yNP; (· exact hgA); (· exact hsA)) | ((first | apply zA | apply zC | apply zE | apply zG); (· omega)) | ((first | apply zB | apply zD | apply zF | apply zH); (· omega)) | ((first | apply zI | apply zK); (· assumption)) | ((first | apply zJ | apply zL); (· assumption)) | fail)
            conv => whnf
            refine ⟨i + 1, by omega, by omega, ?_⟩
            conv => whnf
            refine weakH_of (HW.refl _) ?_
            repeat' (first | exact WT.nil | refine WT.same ?_ | refine WT.drop ?_ | refine WT.int (by omega) ?_ | refine WT.eq (by assumption) ?_ | refine WT.bl (by first | assumption | (symm; assumption)) ?_ | refine WT.vv (by assumption) ?_)
          · skip
            repeat' ((conv => whnf); first | refine refSum_c (r := (norM m)[i]) (by omega) (fun x hx => by have := hnb x hx; omega) mtA ?_ | refine refSum_c (r := m[i]) (by omega) (fun x hx => by have := hmb x hx; omega) mtA ?_ | ((first | (apply vB; (case h => assumption)) | (apply vA; (case h => assumption)) | (apply vC; (case h => assumption))); (case hk => exact kpA); (case he => omega)) | ((first | (apply vI; (case h => assumption)) | (apply vG; (case h => assumption)) | (apply vK; (case h => assumption))); (case hk => exact kpA); (case he => omega); (case hp => omega); (case' g => intro hr_ hc_)) | ((first | (apply vJ; (case h => assumption)) | (apply vH; (case h => assumption)) | (apply vL; (case h => assumption))); (case hk => exact kpA); (case he => omega); (case' g => intro hr_ hc_)) | (apply drawS_auto mixed tt_ok; (· kernel_rfl)) | apply zZ | apply yA | apply yB | ((first | apply zA | apply zC | apply zE | apply zG); (· assumption)) | ((first | apply zB | apply zD | apply zF | apply zH); (· assumption)) | apply zM | apply zN | apply zO | apply zP | apply zQ | apply zR | apply zS | apply zT | apply zU | (apply zV; (· omega)) | (apply zW; (· omega)) | (apply zX; (· (first | omega | (dsimp only; omega)))) | (apply zY; (try (apply zY; apply zX; (· omega))); apply zX; (· omega); apply zX; (· (first | omega | (dsimp only; omega)))) | ((first | apply yJ | apply yK | apply yL | apply yM | apply yN | apply yO); (· exact hgA); (· exact hsA)) | (apply yNP; (· exact hgA); (· exact hsA)) | ((first | apply zA | apply zC | apply zE | apply zG); (· omega)) | ((first | apply zB | apply zD | apply zF | apply zH); (· omega)) | ((first | apply zI | apply zK); (· assumption)) | ((first | apply zJ | apply zL); (· assumption)) | fail)
            conv => whnf
            refine ⟨i + 1, by omega, by omega, ?_⟩
            conv => whnf
            refine weakH_of (HW.refl _) ?_
            repeat' (first | exact WT.nil | refine WT.same ?_ | refine WT.drop ?_ | refine WT.int (by omega) ?_ | refine WT.eq (by assumption) ?_ | refine WT.bl (by first | assumption | (symm; assumption)) ?_ | refine WT.vv (by assumption) ?_)
        · have hb1 := hb.kp hle1.kp
          by_cases hE : appE m b = 0
          · have hvb : blockB b = true := by
              cases hh : blockB b with
              | true => rfl
              | false => rw [appE, if_neg (fun h => by rw [hh] at h; cases h.2)] at hE; omega
            have hd : framesB m = b.length := by
              by_cases hh : framesB m = b.length
              · exact hh
              · rw [appE, if_pos ⟨hvm, hvb⟩, if_neg hh] at hE; omega
            have hM : appM m b = matF (appF m b) m.length (framesB b) := by rw [appM, if_pos hE]
            have hE2 : appE m (turnM b) = 0 := by rw [appE, if_pos ⟨hvm, turn_block hvb⟩, turn_len, if_pos hd]
            have hM2 : appM m (turnM b) = turnM (appM m b) := by
              rw [appM, if_pos hE2, hM, turn_matF, turn_frames]
              exact matF_congr fun i _ c _ => turn_app m b i c
            have hbx : blockB (appM m b) = true := by rw [hM]; exact app_block hvm hvb
            repeat' ((conv => whnf); first | refine apply_c hmk hb1 (fun H2 p2 d2 hle2 hx2 => ?_); rw [hE] | refine turned_v hvb (hb1.kp hle2.kp) (fun H3 p3 d3 hle3 hm3 => ?_) | refine apply_c ((hmk.kp hle2.kp).kp hle3.kp) hm3 (fun H4 p4 d4 hle4 hx4 => ?_); rw [hE2] | refine turned_v hbx ((hx2.kp hle3.kp).kp hle4.kp) (fun H5 p5 d5 hle5 hx5 => ?_) | refine sameBlock_c (xs := turnM (appM m b)) (ys := appM m (turnM b)) hx5 (hx4.kp hle5.kp) ?_; rw [decide_eq_true hM2.symm] | (apply awake_c) | ((first | (apply vB; (case h => assumption)) | (apply vA; (case h => assumption)) | (apply vC; (case h => assumption))); (case hk => exact kpA); (case he => omega)) | ((first | (apply vI; (case h => assumption)) | (apply vG; (case h => assumption)) | (apply vK; (case h => assumption))); (case hk => exact kpA); (case he => omega); (case hp => omega); (case' g => intro hr_ hc_)) | ((first | (apply vJ; (case h => assumption)) | (apply vH; (case h => assumption)) | (apply vL; (case h => assumption))); (case hk => exact kpA); (case he => omega); (case' g => intro hr_ hc_)) | (apply drawS_auto mixed tt_ok; (· kernel_rfl)) | apply zZ | apply yA | apply yB | ((first | apply zA | apply zC | apply zE | apply zG); (· assumption)) | ((first | apply zB | apply zD | apply zF | apply zH); (· assumption)) | apply zM | apply zN | apply zO | apply zP | apply zQ | apply zR | apply zS | apply zT | apply zU | (apply zV; (· omega)) | (apply zW; (· omega)) | (apply zX; (· (first | omega | (dsimp only; omega)))) | (apply zY; (try (apply zY; apply zX; (· omega))); apply zX; (· omega); apply zX; (· (first | omega | (dsimp only; omega)))) | ((first | apply yJ | apply yK | apply yL | apply yM | apply yN | apply yO); (· exact hgA); (· exact hsA)) | (apply yNP; (· exact hgA); (· exact hsA)) | ((first | apply zA | apply zC | apply zE | apply zG); (· omega)) | ((first | apply zB | apply zD | apply zF | apply zH); (· omega)) | ((first | apply zI | apply zK); (· assumption)) | ((first | apply zJ | apply zL); (· assumption)) | fail)
            conv => whnf
          · skip
            repeat' ((conv => whnf); first | refine apply_c hmk hb1 (fun H2 p2 d2 hle2 hx2 => ?_) | (apply awake_c) | ((first | (apply vB; (case h => assumption)) | (apply vA; (case h => assumption)) | (apply vC; (case h => assumption))); (case hk => exact kpA); (case he => omega)) | ((first | (apply vI; (case h => assumption)) | (apply vG; (case h => assumption)) | (apply vK; (case h => assumption))); (case hk => exact kpA); (case he => omega); (case hp => omega); (case' g => intro hr_ hc_)) | ((first | (apply vJ; (case h => assumption)) | (apply vH; (case h => assumption)) | (apply vL; (case h => assumption))); (case hk => exact kpA); (case he => omega); (case' g => intro hr_ hc_)) | (apply drawS_auto mixed tt_ok; (· kernel_rfl)) | apply zZ | apply yA | apply yB | ((first | apply zA | apply zC | apply zE | apply zG); (· assumption)) | ((first | apply zB | apply zD | apply zF | apply zH); (· assumption)) | apply zM | apply zN | apply zO | apply zP | apply zQ | apply zR | apply zS | apply zT | apply zU | (apply zV; (· omega)) | (apply zW; (· omega)) | (apply zX; (· (first | omega | (dsimp only; omega)))) | (apply zY; (try (apply zY; apply zX; (· omega))); apply zX; (· omega); apply zX; (· (first | omega | (dsimp only; omega)))) | ((first | apply yJ | apply yK | apply yL | apply yM | apply yN | apply yO); (· exact hgA); (· exact hsA)) | (apply yNP; (· exact hgA); (· exact hsA)) | ((first | apply zA | apply zC | apply zE | apply zG); (· omega)) | ((first | apply zB | apply zD | apply zF | apply zH); (· omega)) | ((first | apply zI | apply zK); (· assumption)) | ((first | apply zJ | apply zL); (· assumption)) | fail)
            conv => whnf
theorem matrixNormal_acall {DH : Type} (ds : List (DataW DH)) (H : AHeap) (vs : List Value) (h : ReadsArgs tt H [22, 23] vs ds) : ACall P 4 vs H (fun e _ => e = .returned (.bool true)) := by
  obtain ⟨v, vs, d, ds, rfl, rfl, h1, h⟩ := readsArgs_cons h
  obtain ⟨v, vs, d, ds, rfl, rfl, h2, h⟩ := readsArgs_cons h
  cases readsArgs_nil h
  obtain ⟨p, c, m, rfl, hm⟩ := arg_sl h1 rfl rfl (dec_slice rfl rfl (dec_int rfl))
  obtain ⟨q, c2, b, rfl, hb⟩ := arg_sl h2 rfl rfl (dec_slice rfl rfl (dec_int rfl))
  exact normal_law hm hb
theorem matrixNormal_lifted (os : Os) (started : os.Started) (DH : Type) (enc : TypeId × Value → DH) :
    ReturnsInHanded {} Try.checked os 4 .any (Rows.matrixNormalSpec.pre6 enc Try.prog Try.f4 [] false) (Rows.matrixNormalSpec.post enc Try.prog Try.f4 false true false false) :=
  law_returns (C := Try.checked) (m := 12) Try.own2 started (by kernel_rfl) Try.func4
    (ChangeSpec.witness6 (enc := enc) (C := Try.checked) false ⟨#[], #[.slice none 0 0, .slice none 0 0], []⟩ 8 (by kernel_rfl) (by kernel_rfl) (by kernel_rfl) (by kernel_rfl))
    tt_ok (by kernel_rfl) rfl (by kernel_rfl) rfl (by kernel_rfl)
    (fun ds hl => by match ds, hl with | [d0, d1], _ => exact ⟨rfl, rfl, rfl⟩)
    (fun ds H vs hs h => matrixNormal_acall ds H vs h)
theorem matrixNormal_holds : Rows.MatrixNormalSaid :=
  OpenClaim.holds_of_wide 4 Try.f4 rfl rfl rfl rfl rfl rfl rfl ⟨rfl, rfl, rfl, rfl, rfl⟩ rfl rfl rfl rfl rfl (by kernel_rfl) Try.func4 (by kernel_rfl)
    (of_decide_eq_true (by kernel_rfl)) (by unfold Func.isWrapper; rw [if_neg (by decide +kernel)]; exact ⟨rfl, rfl⟩)
    (fun os started H enc _ => matrixNormal_lifted os started H enc)
end Go.Abs
namespace Go.Proofs.Ythadnbgkmfacmaa
theorem matrixNormalProved : Rows.MatrixNormalSaid := Go.Abs.matrixNormal_holds
end Go.Proofs.Ythadnbgkmfacmaa
