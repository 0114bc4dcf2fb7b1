/- Contract of Apply, the program's. -/
import Derived.Test.YthadnbgkmfacmaaA03
set_option linter.all false
set_option maxHeartbeats 2000000
set_option maxRecDepth 20000
namespace Go.Abs
open Go Go.Proofs

theorem must_t {e : Int} {H : AHeap} {K : CK} (h : K (.returned (.tuple #[])) H) : callS P (fnV 42) [.bool true, iv e] H K := by
  refine callS_walk tt_ok Try.func42 rfl (by kernel_rfl) ?_
  conv => whnf
  repeat' ((conv => whnf); first | apply yA | apply yB | ((first | apply zA | apply zC | apply zE | apply zG); (· assumption)) | ((first | apply zB | apply zD | apply zF | apply zH); (· assumption)) | apply zM | apply zN | apply zO | apply zP | apply zQ | apply zR | apply zS | apply zT | apply zU | (apply zV; (· omega)) | (apply zW; (· omega)) | (apply zX; (· (first | omega | (dsimp only; omega)))) | (apply zY; (try (apply zY; apply zX; (· omega))); apply zX; (· omega); apply zX; (· (first | omega | (dsimp only; omega)))) | ((first | apply zA | apply zC | apply zE | apply zG); (· omega)) | ((first | apply zB | apply zD | apply zF | apply zH); (· omega)) | ((first | apply zI | apply zK); (· assumption)) | ((first | apply zJ | apply zL); (· assumption)) | fail)
  conv => whnf
  exact h
theorem must_f {e : Int} {H : AHeap} {K : CK} (h : K (.panicked [{ v := .iface 89 (.agg #[iv e]), recovered := false }]) H) : callS P (fnV 42) [.bool false, iv e] H K := by
  refine callS_walk tt_ok Try.func42 rfl (by kernel_rfl) ?_
  conv => whnf
  repeat' ((conv => whnf); first | apply yA | apply yB | ((first | apply zA | apply zC | apply zE | apply zG); (· assumption)) | ((first | apply zB | apply zD | apply zF | apply zH); (· assumption)) | apply zM | apply zN | apply zO | apply zP | apply zQ | apply zR | apply zS | apply zT | apply zU | (apply zV; (· omega)) | (apply zW; (· omega)) | (apply zX; (· (first | omega | (dsimp only; omega)))) | (apply zY; (try (apply zY; apply zX; (· omega))); apply zX; (· omega); apply zX; (· (first | omega | (dsimp only; omega)))) | ((first | apply zA | apply zC | apply zE | apply zG); (· omega)) | ((first | apply zB | apply zD | apply zF | apply zH); (· omega)) | ((first | apply zI | apply zK); (· assumption)) | ((first | apply zJ | apply zL); (· assumption)) | fail)
  conv => whnf
  exact h
theorem must_ok {b : Bool} {e : Int} {H : AHeap} {K : CK} (hb : b = true) (h : K (.returned (.tuple #[])) H) : callS P (fnV 42) [.bool b, iv e] H K := by subst hb; exact must_t h
theorem must_no {b : Bool} {e : Int} {H : AHeap} {K : CK} (hb : b = false) (h : K (.panicked [{ v := .iface 89 (.agg #[iv e]), recovered := false }]) H) : callS P (fnV 42) [.bool b, iv e] H K := by subst hb; exact must_f h
theorem caught_ret {c : Nat} {e0 : Int} {H : AHeap} {K : AEnd → FrameMode → AHeap → Prop} (hc : c < H.size) (hg : H.get c = some (.cells [iv e0] true 0))
    (h : ∀ H', H.le H' → H'.get c = some (.cells [iv e0] true 0) → K (.returned (.tuple #[])) .returning H') : defS P 41 [.pointer (some ⟨c, 0, none⟩)] .returning H K := by
  refine defS_walk tt_ok Try.func41 rfl (by kernel_rfl) ?_
  conv => whnf
  repeat' ((conv => whnf); first | ((first | (apply vB; (case h => assumption)) | (apply vA; (case h => assumption)) | (apply vC; (case h => assumption))); (case hk => exact kpA); (case he => omega)) | ((first | (apply vI; (case h => assumption)) | (apply vG; (case h => assumption)) | (apply vK; (case h => assumption))); (case hk => exact kpA); (case he => omega); (case hp => omega); (case' g => intro hr_ hc_)) | ((first | (apply vJ; (case h => assumption)) | (apply vH; (case h => assumption)) | (apply vL; (case h => assumption))); (case hk => exact kpA); (case he => omega); (case' g => intro hr_ hc_)) | (apply drawS_auto mixed tt_ok; (· kernel_rfl)) | apply zZ | apply yA | apply yB | ((first | apply zA | apply zC | apply zE | apply zG); (· assumption)) | ((first | apply zB | apply zD | apply zF | apply zH); (· assumption)) | apply zM | apply zN | apply zO | apply zP | apply zQ | apply zR | apply zS | apply zT | apply zU | (apply zV; (· omega)) | (apply zW; (· omega)) | (apply zX; (· (first | omega | (dsimp only; omega)))) | (apply zY; (try (apply zY; apply zX; (· omega))); apply zX; (· omega); apply zX; (· (first | omega | (dsimp only; omega)))) | ((first | apply yJ | apply yK | apply yL | apply yM | apply yN | apply yO); (· exact hgA); (· exact hsA)) | (apply yNP; (· exact hgA); (· exact hsA)) | ((first | apply zA | apply zC | apply zE | apply zG); (· omega)) | ((first | apply zB | apply zD | apply zF | apply zH); (· omega)) | ((first | apply zI | apply zK); (· assumption)) | ((first | apply zJ | apply zL); (· assumption)) | fail)
  conv => whnf
  exact h _ leA hgA
theorem caught_panic {c : Nat} {e0 e : Int} {H : AHeap} {K : AEnd → FrameMode → AHeap → Prop} (hc : c < H.size) (hg : H.get c = some (.cells [iv e0] true 0))
    (h : ∀ H', (H.set c (.cells [iv e] true 0)).le H' → H'.get c = some (.cells [iv e] true 0) → K (.returned (.tuple #[])) (.panicking [{ v := .iface 89 (.agg #[iv e]), recovered := true }]) H') :
    defS P 41 [.pointer (some ⟨c, 0, none⟩)] (.panicking [{ v := .iface 89 (.agg #[iv e]), recovered := false }]) H K := by
  refine defS_walk tt_ok Try.func41 rfl (by kernel_rfl) ?_
  conv => whnf
  repeat' ((conv => whnf); first | ((first | (apply vB; (case h => assumption)) | (apply vA; (case h => assumption)) | (apply vC; (case h => assumption))); (case hk => exact kpA); (case he => omega)) | ((first | (apply vI; (case h => assumption)) | (apply vG; (case h => assumption)) | (apply vK; (case h => assumption))); (case hk => exact kpA); (case he => omega); (case hp => omega); (case' g => intro hr_ hc_)) | ((first | (apply vJ; (case h => assumption)) | (apply vH; (case h => assumption)) | (apply vL; (case h => assumption))); (case hk => exact kpA); (case he => omega); (case' g => intro hr_ hc_)) | (apply drawS_auto mixed tt_ok; (· kernel_rfl)) | apply zZ | apply yA | apply yB | ((first | apply zA | apply zC | apply zE | apply zG); (· assumption)) | ((first | apply zB | apply zD | apply zF | apply zH); (· assumption)) | apply zM | apply zN | apply zO | apply zP | apply zQ | apply zR | apply zS | apply zT | apply zU | (apply zV; (· omega)) | (apply zW; (· omega)) | (apply zX; (· (first | omega | (dsimp only; omega)))) | (apply zY; (try (apply zY; apply zX; (· omega))); apply zX; (· omega); apply zX; (· (first | omega | (dsimp only; omega)))) | ((first | apply yJ | apply yK | apply yL | apply yM | apply yN | apply yO); (· exact hgA); (· exact hsA)) | (apply yNP; (· exact hgA); (· exact hsA)) | ((first | apply zA | apply zC | apply zE | apply zG); (· omega)) | ((first | apply zB | apply zD | apply zF | apply zH); (· omega)) | ((first | apply zI | apply zK); (· assumption)) | ((first | apply zJ | apply zL); (· assumption)) | fail)
  conv => whnf
  refine h _ ⟨by simp, fun i (hi : i < H.size) => ?_⟩ hgA
  by_cases h2 : i = c
  · subst h2
    exact Eq.trans hgA (AHeap.set_same _ _ _).symm
  · exact Eq.trans hgA (AHeap.set_ne _ _ h2).symm

def dotN (m b : List (List Int)) (i f n : Nat) : Int := ((List.range n).map fun k => at2 m i k * at2 b k f).sum
theorem dotN_zero (m b : List (List Int)) (i f : Nat) : dotN m b i f 0 = 0 := rfl
theorem dotN_succ (m b : List (List Int)) (i f n : Nat) : dotN m b i f (n + 1) = dotN m b i f n + at2 m i n * at2 b n f := by simp [dotN, List.range_succ]
def clipF (x : Int) : Int := max (0 - 8388607) (min 8388607 x)
def appE (m b : List (List Int)) : Int := if matB m = true ∧ blockB b = true then if framesB m = b.length then 0 else 11 else 1
def appF (m b : List (List Int)) (i f : Nat) : Int := clipF (rnd (dotN m b i f b.length) 65536)
def appM (m b : List (List Int)) : List (List Int) := if appE m b = 0 then matF (appF m b) m.length (framesB b) else []
theorem getD_bd' {r : List Int} {B : Int} (hB : 0 ≤ B) (h : ∀ x ∈ r, -B ≤ x ∧ x ≤ B) (i : Nat) : -B ≤ r.getD i 0 ∧ r.getD i 0 ≤ B := by
  by_cases hi : i < r.length
  · have := h r[i] (List.getElem_mem _)
    simpa [List.getD, hi] using this
  · simp [List.getD, hi]; omega
theorem at2_bdB {b : List (List Int)} {B : Int} (hB : 0 ≤ B) (h : ∀ r ∈ b, ∀ x ∈ r, -B ≤ x ∧ x ≤ B) (k i : Nat) : -B ≤ at2 b k i ∧ at2 b k i ≤ B := by
  unfold at2
  refine getD_bd' hB (fun x hx => ?_) i
  by_cases hk : k < b.length
  · have e : b.getD k [] = b[k] := by simp [List.getD, hk]
    rw [e] at hx
    exact h _ (List.getElem_mem hk) x hx
  · simp [List.getD, hk] at hx
theorem mul_bdd {a x A B : Int} (ha : -A ≤ a ∧ a ≤ A) (hx : -B ≤ x ∧ x ≤ B) : -(A * B) ≤ a * x ∧ a * x ≤ A * B := by
  have hA : 0 ≤ A := by omega
  have hB : 0 ≤ B := by omega
  have h3 := Int.mul_nonneg hA hB
  rcases Int.le_total 0 a with h | h
  · rcases Int.le_total 0 x with g | g
    · have h1 : a * x ≤ A * B := Int.mul_le_mul ha.2 hx.2 g hA
      have h2 := Int.mul_nonneg h g
      omega
    · have h1 : a * (0 - x) ≤ A * B := Int.mul_le_mul ha.2 (by omega) (by omega) hA
      have h2 := Int.mul_nonneg h (show 0 ≤ 0 - x by omega)
      have e : a * (0 - x) = 0 - a * x := by rw [Int.mul_sub, Int.mul_zero]
      omega
  · rcases Int.le_total 0 x with g | g
    · have h1 : (0 - a) * x ≤ A * B := Int.mul_le_mul (by omega) hx.2 g hA
      have h2 := Int.mul_nonneg (show 0 ≤ 0 - a by omega) g
      have e : (0 - a) * x = 0 - a * x := by rw [Int.sub_mul, Int.zero_mul]
      omega
    · have h1 : (0 - a) * (0 - x) ≤ A * B := Int.mul_le_mul (by omega) (by omega) (by omega) hA
      have h2 := Int.mul_nonneg (show 0 ≤ 0 - a by omega) (show 0 ≤ 0 - x by omega)
      have e : (0 - a) * (0 - x) = a * x := by rw [Int.sub_mul, Int.zero_mul, Int.mul_sub, Int.mul_zero]; omega
      omega
theorem dotN_bd {m b : List (List Int)} {A B : Int} (hA : 0 ≤ A) (hB : 0 ≤ B) (hm : ∀ r ∈ m, ∀ x ∈ r, -A ≤ x ∧ x ≤ A) (hb : ∀ r ∈ b, ∀ x ∈ r, -B ≤ x ∧ x ≤ B) (i f : Nat) : ∀ n : Nat, -((n : Int) * (A * B)) ≤ dotN m b i f n ∧ dotN m b i f n ≤ (n : Int) * (A * B)
  | 0 => by simp [dotN_zero]
  | n + 1 => by
    have ih := dotN_bd hA hB hm hb i f n
    have h1 := mul_bdd (at2_bdB hA hm i n) (at2_bdB hB hb n f)
    have e : ((n + 1 : Nat) : Int) * (A * B) = (n : Int) * (A * B) + A * B := by push_cast; rw [Int.add_mul, Int.one_mul]
    rw [dotN_succ, e]
    omega
def pm (m b : List (List Int)) (w i k i' f : Nat) : Int := if i' < i then dotN m b i' f w else if i' = i then dotN m b i' f k else 0
theorem pm_next (m b : List (List Int)) (w i i' f : Nat) : pm m b w i w i' f = pm m b w (i + 1) 0 i' f := by
  unfold pm
  by_cases h1 : i' < i
  · rw [if_pos h1, if_pos (by omega)]
  · rw [if_neg h1]
    by_cases h2 : i' = i
    · rw [if_pos h2, if_pos (by omega)]
    · rw [if_neg h2, if_neg (by omega), dotN_zero]
      split <;> rfl
theorem pm_aux {m b : List (List Int)} {w i k j : Nat} {v : Int} (hv : v = pm m b w i k i j + at2 m i k * at2 b k j) (a f : Nat) :
    (if a = i ∧ f = j then v else if a = i ∧ f < j then pm m b w i (k + 1) a f else pm m b w i k a f) = if a = i ∧ f < j + 1 then pm m b w i (k + 1) a f else pm m b w i k a f := by
  by_cases h1 : a = i ∧ f = j
  · obtain ⟨rfl, rfl⟩ := h1
    rw [if_pos ⟨rfl, rfl⟩, if_pos ⟨rfl, by omega⟩, hv]
    simp [pm, dotN_succ]
  · rw [if_neg h1]
    by_cases h2 : a = i ∧ f < j
    · rw [if_pos h2, if_pos ⟨h2.1, by omega⟩]
    · rw [if_neg h2]
      by_cases h3 : a = i ∧ f < j + 1
      · exact absurd ⟨h3.1, by omega⟩ h2
      · rw [if_neg h3]
theorem rclip_aux {f : Nat → Nat → Int} {k j : Nat} {v : Int} (hv : v = clipF (rnd (f k j) 65536)) (i c : Nat) :
    (if i = k ∧ c = j then v else if i < k ∨ i = k ∧ c < j then clipF (rnd (f i c) 65536) else f i c) = if i < k ∨ i = k ∧ c < j + 1 then clipF (rnd (f i c) 65536) else f i c := by
  by_cases h1 : i = k ∧ c = j
  · obtain ⟨rfl, rfl⟩ := h1
    rw [if_pos ⟨rfl, rfl⟩, if_pos (by omega), hv]
  · rw [if_neg h1]
    by_cases h2 : i < k ∨ i = k ∧ c < j
    · rw [if_pos h2, if_pos (by omega)]
    · rw [if_neg h2, if_neg (by omega)]

theorem apply_c {p q : Option Addr} {c1 c2 : Nat} {m b : List (List Int)} {H : AHeap} {K : CK} (hm : Mat H p m) (hb : Mat H q b)
    (h : ∀ H' p' c', H.le H' → Mat H' p' (appM m b) → K (.returned (.tuple #[.slice p' (appM m b).length c', iv (appE m b)])) H') : callS P (fnV 15) [.slice p m.length c1, .slice q b.length c2] H K := by
  have bad_ : ∀ e, appE m b = e → e ≠ 0 → ∀ H', H.le H' → K (.returned (.tuple #[.slice none 0 0, iv e])) H' := fun e he hne H' hle => by
    have hM : appM m b = [] := by unfold appM; rw [he, if_neg hne]
    have := h H' none 0 hle (by rw [hM]; exact .nil)
    rw [hM, he] at this; exact this
  cases hvm : matB m with
  | false =>
    have hE : appE m b = 1 := by simp [appE, hvm]
    refine callS_walk tt_ok Try.func15 rfl (by kernel_rfl) ?_
    conv => whnf
    repeat' ((conv => whnf); first | refine validM_v mtA hvm ?_ | (apply must_no; (· (first | rfl | assumption | exact decide_eq_false (by omega)))) | (apply caught_panic; (· exact hoA); (· exact hgA); intro H2 hle2 hg2) | ((first | (apply vB; (case h => assumption)) | (apply vA; (case h => assumption)) | (apply vC; (case h => assumption))); (case hk => exact kpA); (case he => omega)) | ((first | (apply vI; (case h => assumption)) | (apply vG; (case h => assumption)) | (apply vK; (case h => assumption))); (case hk => exact kpA); (case he => omega); (case hp => omega); (case' g => intro hr_ hc_)) | ((first | (apply vJ; (case h => assumption)) | (apply vH; (case h => assumption)) | (apply vL; (case h => assumption))); (case hk => exact kpA); (case he => omega); (case' g => intro hr_ hc_)) | (apply drawS_auto mixed tt_ok; (· kernel_rfl)) | apply zZ | apply yA | apply yB | ((first | apply zA | apply zC | apply zE | apply zG); (· assumption)) | ((first | apply zB | apply zD | apply zF | apply zH); (· assumption)) | apply zM | apply zN | apply zO | apply zP | apply zQ | apply zR | apply zS | apply zT | apply zU | (apply zV; (· omega)) | (apply zW; (· omega)) | (apply zX; (· (first | omega | (dsimp only; omega)))) | (apply zY; (try (apply zY; apply zX; (· omega))); apply zX; (· omega); apply zX; (· (first | omega | (dsimp only; omega)))) | ((first | apply yJ | apply yK | apply yL | apply yM | apply yN | apply yO); (· exact hgA); (· exact hsA)) | (apply yNP; (· exact hgA); (· exact hsA)) | ((first | apply zA | apply zC | apply zE | apply zG); (· omega)) | ((first | apply zB | apply zD | apply zF | apply zH); (· omega)) | ((first | apply zI | apply zK); (· assumption)) | ((first | apply zJ | apply zL); (· assumption)) | ((first | apply xA | apply xC | apply xE | apply xG); (· first | assumption | rfl)) | ((first | apply xB | apply xD | apply xF | apply xH); (· first | assumption | kernel_rfl)) | fail)
    conv => whnf
    exact bad_ 1 hE (by omega) _ (AHeap.le.trans leA hle2)
  | true =>
    cases hvb : blockB b with
    | false =>
      have hE : appE m b = 1 := by simp [appE, hvb]
      refine callS_walk tt_ok Try.func15 rfl (by kernel_rfl) ?_
      conv => whnf
      repeat' ((conv => whnf); first | refine validM_v mtA hvm ?_ | (apply layValid_v; (· exact mtA); (· assumption)) | (apply must_no; (· (first | rfl | assumption | exact decide_eq_false (by omega)))) | (apply caught_panic; (· exact hoA); (· exact hgA); intro H2 hle2 hg2) | ((first | (apply vB; (case h => assumption)) | (apply vA; (case h => assumption)) | (apply vC; (case h => assumption))); (case hk => exact kpA); (case he => omega)) | ((first | (apply vI; (case h => assumption)) | (apply vG; (case h => assumption)) | (apply vK; (case h => assumption))); (case hk => exact kpA); (case he => omega); (case hp => omega); (case' g => intro hr_ hc_)) | ((first | (apply vJ; (case h => assumption)) | (apply vH; (case h => assumption)) | (apply vL; (case h => assumption))); (case hk => exact kpA); (case he => omega); (case' g => intro hr_ hc_)) | (apply drawS_auto mixed tt_ok; (· kernel_rfl)) | apply zZ | apply yA | apply yB | ((first | apply zA | apply zC | apply zE | apply zG); (· assumption)) | ((first | apply zB | apply zD | apply zF | apply zH); (· assumption)) | apply zM | apply zN | apply zO | apply zP | apply zQ | apply zR | apply zS | apply zT | apply zU | (apply zV; (· omega)) | (apply zW; (· omega)) | (apply zX; (· (first | omega | (dsimp only; omega)))) | (apply zY; (try (apply zY; apply zX; (· omega))); apply zX; (· omega); apply zX; (· (first | omega | (dsimp only; omega)))) | ((first | apply yJ | apply yK | apply yL | apply yM | apply yN | apply yO); (· exact hgA); (· exact hsA)) | (apply yNP; (· exact hgA); (· exact hsA)) | ((first | apply zA | apply zC | apply zE | apply zG); (· omega)) | ((first | apply zB | apply zD | apply zF | apply zH); (· omega)) | ((first | apply zI | apply zK); (· assumption)) | ((first | apply zJ | apply zL); (· assumption)) | ((first | apply xA | apply xC | apply xE | apply xG); (· first | assumption | rfl)) | ((first | apply xB | apply xD | apply xF | apply xH); (· first | assumption | kernel_rfl)) | fail)
      conv => whnf
      exact bad_ 1 hE (by omega) _ (AHeap.le.trans leA hle2)
    | true =>
      obtain ⟨⟨hm1, hm8⟩, ⟨hw1, hw8⟩, hmr⟩ := matB_rows hvm
      obtain ⟨⟨hb1, hb8⟩, hbr⟩ := blockB_rows hvb
      have hm0 : 0 < m.length := hm1
      have hb0 : 0 < b.length := hb1
      rw [frames0 hm0] at hw1 hw8 hmr
      rw [headD_eq hb0] at hbr
      obtain ⟨i0, off, rfl⟩ := hm.at hm0
      obtain ⟨i1, off1, rfl⟩ := hb.at hb0
      by_cases hd : m[0].length = b.length
      · have hE : appE m b = 0 := by rw [appE, if_pos ⟨hvm, hvb⟩, frames0 hm0, if_pos hd]
        have hM : appM m b = matF (appF m b) m.length b[0].length := by rw [appM, if_pos hE, frames0 hb0]
        rw [hE, hM, matF_len] at h
        have hL4 := (hbr b[0] (List.getElem_mem _)).2.1
        refine callS_post ?_
        refine callS_walk tt_ok Try.func15 rfl (by kernel_rfl) ?_
        conv => whnf
        repeat' ((conv => whnf); first | refine validM_v mtA hvm ?_ | (apply layValid_v; (· exact mtA); (· assumption)) | (apply must_ok; (· (first | rfl | assumption | exact decide_eq_true (by omega)))) | refine empty_c (n := m.length) (m := b[0].length) ⟨by omega, by omega⟩ (fun H1 o rs hle1 hom => ?_); (have hs1 : H.size + 2 ≤ H1.size := hle1.size); (have hkp1 : Kp H H1 := Kp.trans kpA hle1.kp) | refine of_c (hm.kp kpA) (fun H2 hle2 => ?_) | (apply weightsF_c) | ((first | (apply vB; (case h => assumption)) | (apply vA; (case h => assumption)) | (apply vC; (case h => assumption))); (case hk => exact kpA); (case he => omega)) | ((first | (apply vI; (case h => assumption)) | (apply vG; (case h => assumption)) | (apply vK; (case h => assumption))); (case hk => exact kpA); (case he => omega); (case hp => omega); (case' g => intro hr_ hc_)) | ((first | (apply vJ; (case h => assumption)) | (apply vH; (case h => assumption)) | (apply vL; (case h => assumption))); (case hk => exact kpA); (case he => omega); (case' g => intro hr_ hc_)) | (apply drawS_auto mixed tt_ok; (· kernel_rfl)) | apply zZ | apply yA | apply yB | ((first | apply zA | apply zC | apply zE | apply zG); (· assumption)) | ((first | apply zB | apply zD | apply zF | apply zH); (· assumption)) | apply zM | apply zN | apply zO | apply zP | apply zQ | apply zR | apply zS | apply zT | apply zU | (apply zV; (· omega)) | (apply zW; (· omega)) | (apply zX; (· (first | omega | (dsimp only; omega)))) | (apply zY; (try (apply zY; apply zX; (· omega))); apply zX; (· omega); apply zX; (· (first | omega | (dsimp only; omega)))) | ((first | apply yJ | apply yK | apply yL | apply yM | apply yN | apply yO); (· exact hgA); (· exact hsA)) | (apply yNP; (· exact hgA); (· exact hsA)) | ((first | apply zA | apply zC | apply zE | apply zG); (· omega)) | ((first | apply zB | apply zD | apply zF | apply zH); (· omega)) | ((first | apply zI | apply zK); (· assumption)) | ((first | apply zJ | apply zL); (· assumption)) | ((first | apply xA | apply xC | apply xE | apply xG); (· first | assumption | rfl)) | ((first | apply xB | apply xD | apply xF | apply xH); (· first | assumption | kernel_rfl)) | fail)
        conv => whnf
        have hs2 : H1.size + 1 ≤ H2.size := hle2.size
        have hleH1 : H.le H1 := AHeap.le.trans (AHeap.le.trans (AHeap.le_push _ _) (AHeap.le_push _ _)) hle1
        have hleH2 : H.le H2 := AHeap.le.trans leA hle2
        have hlo : ∀ r ∈ rs, H.size + 2 ≤ r := hom.lo.2
        have hlt1 : ∀ r ∈ rs, r < H1.size := hom.lt.2
        have ho1 : H.size + 2 ≤ o ∧ o < H1.size := ⟨hom.lo.1, hom.lt.1⟩
        have hgb : H2.get H.size = some (.cells [.slice (some ⟨i1, off1, none⟩) b.length c2] true 0) := (hle2.get _ hoA).trans (by (repeat (first | assumption | ((first | apply yP | apply yQ); (first | omega | (simp; done) | (simp; omega))) | ((first | refine (yR _ _ ?_).trans ?_ | refine (yS _ _ ?_).trans ?_ | refine (yT _ ?_).trans ?_ | refine (yU (by assumption) _ ?_).trans ?_); (· (first | omega | (simp; done) | (simp; omega)))) | exact rfl)); exact (hle1.get _ hoA).trans hgA)
        have hge : H2.get (H.size + 1) = some (.cells [iv 0] true 0) := (hle2.get _ hoA).trans (by (repeat (first | assumption | ((first | apply yP | apply yQ); (first | omega | (simp; done) | (simp; omega))) | ((first | refine (yR _ _ ?_).trans ?_ | refine (yS _ _ ?_).trans ?_ | refine (yT _ ?_).trans ?_ | refine (yU (by assumption) _ ?_).trans ?_); (· (first | omega | (simp; done) | (simp; omega)))) | exact rfl)); exact (hle1.get _ hoA).trans hgA)
        have hg6 : H2.get H1.size = some (.cells [.slice (some ⟨o, 0, none⟩) m.length m.length] true 0) := (hle2.get _ hoA).trans hgA
        have hom2 : OMat H2 (H.size + 2) o rs (matF (fun _ _ => 0) m.length b[0].length) [] := (hom.of_get (H' := H2) (by omega) (fun i hi _ => (hle2.get i hoA).trans hgA))
        have nin : ∀ j, j < H.size + 2 ∨ H1.size ≤ j → j ∉ rs := fun j hj hm => by have := hlo j hm; have := hlt1 j hm; omega
        have hno : o ∉ rs := hom.no
        refine weights_c (H0 := H) (sb := H2.size) (v1 := iv m.length) (v2 := iv (framesB m)) (c := c1) (I := fun Hb i k HH => Hb.size ≤ HH.size ∧ (∀ j, j < Hb.size → j ∉ rs → HH.get j = Hb.get j) ∧ OMat HH (H.size + 2) o rs (matF (pm m b b.length i k) m.length b[0].length) [])
          (X := fun _ _ => False) hm ?_ ?_ ?_ ?_ ?_ (fun _ hX => hX.elim)
        · rintro i k HH ⟨hs, hsame, hom3⟩
          have hs' : H2.size + 3 ≤ HH.size := hs
          exact ⟨AHeap.le.kp ⟨by omega, fun j hj => (hsame j hoA (nin j (.inl (by omega)))).trans (AHeap.le.get leA j hj)⟩, (hsame H2.size hoA (nin _ (.inr (by omega)))).trans hgA⟩
        · rintro i hi HH ⟨hs, hsame, hom3⟩
          rw [(hmr m[i] (List.getElem_mem _)).1, hd] at hom3
          exact ⟨hs, hsame, hom3.cast _ (fun a _ f _ => pm_next m b b.length i a f)⟩
        · exact ⟨Nat.le_refl _, fun _ _ _ => rfl, (hom2.of_get hoA (fun i hi _ => hgA)).cast _ (fun a _ f _ => by simp [pm, dotN_zero])⟩
        · rintro i k HH K1 hi hk ⟨hs, hsame, hom3⟩ hT _
          have hs' : H2.size + 3 ≤ HH.size := hs
          have hml := (hmr m[i] (List.getElem_mem _)).1
          have hkb : k < b.length := by omega
          have gl := (hsame (H2.size + 2) hoA (nin _ (.inr (by omega)))).trans hgA
          have gb : HH.get H.size = some (.cells [.slice (some ⟨i1, off1, none⟩) b.length c2] true 0) := (hsame H.size hoA (nin _ (.inl (by omega)))).trans hgA
          have g6 : HH.get H1.size = some (.cells [.slice (some ⟨o, 0, none⟩) m.length m.length] true 0) := (hsame H1.size hoA (nin _ (.inr (by omega)))).trans hgA
          have hkH : Kp H HH := AHeap.le.kp ⟨by omega, fun j hj => (hsame j hoA (nin j (.inl (by omega)))).trans (AHeap.le.get leA j hj)⟩
          have hwb := (hmr m[i] (List.getElem_mem _)).2 m[i][k] (List.getElem_mem _)
          have hbl := (hbr b[k] (List.getElem_mem _)).1
          refine callS_round tt_ok ?_
          repeat' ((conv => whnf); first | ((first | (apply vB; (case h => assumption)) | (apply vA; (case h => assumption)) | (apply vC; (case h => assumption))); (case hk => exact kpA); (case he => omega)) | ((first | (apply vI; (case h => assumption)) | (apply vG; (case h => assumption)) | (apply vK; (case h => assumption))); (case hk => exact kpA); (case he => omega); (case hp => omega); (case' g => intro hr_ hc_)) | ((first | (apply vJ; (case h => assumption)) | (apply vH; (case h => assumption)) | (apply vL; (case h => assumption))); (case hk => exact kpA); (case he => omega); (case' g => intro hr_ hc_)) | (apply drawS_auto mixed tt_ok; (· kernel_rfl)) | apply zZ | apply yA | apply yB | ((first | apply zA | apply zC | apply zE | apply zG); (· assumption)) | ((first | apply zB | apply zD | apply zF | apply zH); (· assumption)) | apply zM | apply zN | apply zO | apply zP | apply zQ | apply zR | apply zS | apply zT | apply zU | (apply zV; (· omega)) | (apply zW; (· omega)) | (apply zX; (· (first | omega | (dsimp only; omega)))) | (apply zY; (try (apply zY; apply zX; (· omega))); apply zX; (· omega); apply zX; (· (first | omega | (dsimp only; omega)))) | ((first | apply yJ | apply yK | apply yL | apply yM | apply yN | apply yO); (· exact hgA); (· exact hsA)) | (apply yNP; (· exact hgA); (· exact hsA)) | ((first | apply zA | apply zC | apply zE | apply zG); (· omega)) | ((first | apply zB | apply zD | apply zF | apply zH); (· omega)) | ((first | apply zI | apply zK); (· assumption)) | ((first | apply zJ | apply zL); (· assumption)) | ((first | apply xA | apply xC | apply xE | apply xG); (· first | assumption | rfl)) | ((first | apply xB | apply xD | apply xF | apply xH); (· first | assumption | kernel_rfl)) | fail)
          conv => whnf
          refine loopS_gen (fun Hr hHr => ?_)
          have hz : HH.size + 1 ≤ Hr.size := by rw [hHr]; exact hoA
          have hx : ∀ x, x < HH.size → x ≠ H2.size + 2 → Hr.get x = HH.get x := by
            rw [hHr]
            intro x h1 h2
            (repeat (first | exact rfl | (refine (yR _ _ ?_).trans ?_; (· exact hoA)) | (refine (yS _ _ ?_).trans ?_; (· exact hoA)) | (refine (yT _ ?_).trans ?_; (· exact hoA))))
          have g7 : Hr.get HH.size = some (.cells [iv i, iv k] true 0) := by rw [hHr]; exact hgA
          have hnl : ∀ x, x = o ∨ x ∈ rs → x ≠ H2.size + 2 := fun x hx => by
            rcases hx with rfl | hx
            · omega
            · have := hlt1 x hx; omega
          have homr := hom3.of_get (H' := Hr) (by omega) (fun x h1 h2 => hx x h1 (hnl x h2))
          refine loopS_mask tt_ok (fun (j : Nat × AHeap) => [.w, .w, .w, .w, .k, .k, .k, .k, .k, .w, .w, .w, .w, .w, .w, .w, .w, .w, .w, .w, .w, .w, .w, .w, .w, .w, .w, .w, .w, .w, .w, .w, .w, .w, .w, .w, .w, .w, .w, .w, .w, .w, .w, .w, .w, .w, .k, .k, .p (iv j.1), .w, .w, .w, .w, .w, .w, .w, .w, .w, .w, .w, .w, .w, .w, .w, .w, .w, .w, .w, .w, .w, .w, .w, .w, .w, .w, .w, .w, .w, .w, .w, .w, .w, .w, .w, .w, .w, .w, .w, .w]) (fun (j : Nat × AHeap) => j.2) (fun (j : Nat × AHeap) => j.1 ≤ b[0].length ∧ Hr.size ≤ j.2.size ∧ (∀ x, x < Hr.size → x ∉ rs → j.2.get x = Hr.get x) ∧ OMat j.2 (H.size + 2) o rs (matF (fun a f => if a = i ∧ f < j.1 then pm m b b.length i (k + 1) a f else pm m b b.length i k a f) m.length b[0].length) []) (fun (j : Nat × AHeap) => b[0].length - j.1) (⟨0, Hr⟩) (⟨by omega, Nat.le_refl _, fun _ _ _ => rfl, homr.cast _ (fun a _ f _ => by simp)⟩) ?_ (fun j hj => ?_)
          · conv => whnf
            refine weakH_of (HW.refl _) ?_
            repeat' (first | exact WT.nil | refine WT.same ?_ | refine WT.drop ?_ | refine WT.int (by omega) ?_ | refine WT.eq (by assumption) ?_ | refine WT.bl (by first | assumption | (symm; assumption)) ?_ | refine WT.vv (by assumption) ?_)
          obtain ⟨j, H4⟩ := j
          obtain ⟨hj, hz4, hsame4, hom4⟩ := hj
          dsimp only at hj hz4 hsame4 hom4 ⊢
          by_cases hlj : j < b[0].length
          · have hjb : j < b[k].length := by omega
            have g74 : H4.get HH.size = some (.cells [iv i, iv k] true 0) := (hsame4 _ (by omega) (nin _ (.inr (by omega)))).trans g7
            have g64 : H4.get H1.size = some (.cells [.slice (some ⟨o, 0, none⟩) m.length m.length] true 0) := (hsame4 _ (by omega) (nin _ (.inr (by omega)))).trans ((hx _ (by omega) (by omega)).trans g6)
            have hkH4 : Kp H H4 := AHeap.le.kp ⟨by omega, fun x h1 => (hsame4 x (by omega) (nin x (.inl (by omega)))).trans ((hx x (by omega) (by omega)).trans ((hsame x hoA (nin x (.inl (by omega)))).trans (AHeap.le.get leA x h1)))⟩
            have hxb := (hbr b[k] (List.getElem_mem _)).2.2 b[k][j] (List.getElem_mem _)
            have hmx := mul_bdd (A := 655360) (B := 8388607) hwb hxb
            have hpb : -43980465111040 ≤ pm m b b.length i k i j ∧ pm m b b.length i k i j ≤ 43980465111040 := by
              have := dotN_bd (A := 655360) (B := 8388607) (by omega) (by omega) (fun r hr => (hmr r hr).2) (fun r hr => (hbr r hr).2.2) i j k
              have hk8 : (k : Int) * (655360 * 8388607) ≤ 8 * (655360 * 8388607) := Int.mul_le_mul_of_nonneg_right (by omega) (by omega)
              unfold pm
              simp only [Nat.lt_irrefl, if_false, if_true]
              omega
            have e1 : (if i = i ∧ j < j then pm m b b.length i (k + 1) i j else pm m b b.length i k i j) = pm m b b.length i k i j := by simp
            have e2 : pm m b b.length i k i j + m[i][k] * b[k][j] = pm m b b.length i k i j + at2 m i k * at2 b k j := by rw [at2_eq hi hk, at2_eq hkb hjb]
            have hr2 : Row H (matA hb hkb) b[k] := by assumption
            obtain ⟨ri, ro, hrow⟩ := hr2.at hjb
            rw [hrow] at hr2 ⊢
            repeat' ((conv => whnf); first | refine hom4.row hi ?_ | refine hom4.at hi hlj ?_; rw [e1] | refine hom4.put2 hi hlj (fun a f => if a = i ∧ f < j + 1 then pm m b b.length i (k + 1) a f else pm m b b.length i k a f) (fun a _ f _ => ?_) (fun H5 hom5 hkp5 => ?_); exact pm_aux e2 a f | ((first | (apply vB; (case h => assumption)) | (apply vA; (case h => assumption)) | (apply vC; (case h => assumption))); (case hk => exact kpA); (case he => omega)) | ((first | (apply vI; (case h => assumption)) | (apply vG; (case h => assumption)) | (apply vK; (case h => assumption))); (case hk => exact kpA); (case he => omega); (case hp => omega); (case' g => intro hr_ hc_)) | ((first | (apply vJ; (case h => assumption)) | (apply vH; (case h => assumption)) | (apply vL; (case h => assumption))); (case hk => exact kpA); (case he => omega); (case' g => intro hr_ hc_)) | (apply drawS_auto mixed tt_ok; (· kernel_rfl)) | apply zZ | apply yA | apply yB | ((first | apply zA | apply zC | apply zE | apply zG); (· assumption)) | ((first | apply zB | apply zD | apply zF | apply zH); (· assumption)) | apply zM | apply zN | apply zO | apply zP | apply zQ | apply zR | apply zS | apply zT | apply zU | (apply zV; (· omega)) | (apply zW; (· omega)) | (apply zX; (· (first | omega | (dsimp only; omega)))) | (apply zY; (try (apply zY; apply zX; (· omega))); apply zX; (· omega); apply zX; (· (first | omega | (dsimp only; omega)))) | ((first | apply yJ | apply yK | apply yL | apply yM | apply yN | apply yO); (· exact hgA); (· exact hsA)) | (apply yNP; (· exact hgA); (· exact hsA)) | ((first | apply zA | apply zC | apply zE | apply zG); (· omega)) | ((first | apply zB | apply zD | apply zF | apply zH); (· omega)) | ((first | apply zI | apply zK); (· assumption)) | ((first | apply zJ | apply zL); (· assumption)) | ((first | apply xA | apply xC | apply xE | apply xG); (· first | assumption | rfl)) | ((first | apply xB | apply xD | apply xF | apply xH); (· first | assumption | kernel_rfl)) | fail)
            conv => whnf
            apply Exists.intro (j + 1, H5)
            refine ⟨?inv, ?mu, ?wk⟩
            case wk =>
              conv => whnf
              refine weakH_of (HW.refl _) ?_
              repeat' (first | exact WT.nil | refine WT.same ?_ | refine WT.drop ?_ | refine WT.int (by omega) ?_ | refine WT.eq (by assumption) ?_ | refine WT.bl (by first | assumption | (symm; assumption)) ?_ | refine WT.vv (by assumption) ?_)
            case mu => first | omega | (dsimp only; omega)
            case inv => exact ⟨by omega, by rw [hkp5.size]; exact hz4, fun x h1 h2 => (hkp5.get x h2).trans (hsame4 x h1 h2), hom5⟩
          · have hjl : j = b[0].length := by omega
            subst hjl
            have gl4 := (hsame4 (H2.size + 2) (by omega) (nin _ (.inr (by omega)))).trans ((congrArg (fun z => AHeap.get z (H2.size + 2)) hHr).trans hgA)
            repeat' ((conv => whnf); first | ((first | (apply vB; (case h => assumption)) | (apply vA; (case h => assumption)) | (apply vC; (case h => assumption))); (case hk => exact kpA); (case he => omega)) | ((first | (apply vI; (case h => assumption)) | (apply vG; (case h => assumption)) | (apply vK; (case h => assumption))); (case hk => exact kpA); (case he => omega); (case hp => omega); (case' g => intro hr_ hc_)) | ((first | (apply vJ; (case h => assumption)) | (apply vH; (case h => assumption)) | (apply vL; (case h => assumption))); (case hk => exact kpA); (case he => omega); (case' g => intro hr_ hc_)) | (apply drawS_auto mixed tt_ok; (· kernel_rfl)) | apply zZ | apply yA | apply yB | ((first | apply zA | apply zC | apply zE | apply zG); (· assumption)) | ((first | apply zB | apply zD | apply zF | apply zH); (· assumption)) | apply zM | apply zN | apply zO | apply zP | apply zQ | apply zR | apply zS | apply zT | apply zU | (apply zV; (· omega)) | (apply zW; (· omega)) | (apply zX; (· (first | omega | (dsimp only; omega)))) | (apply zY; (try (apply zY; apply zX; (· omega))); apply zX; (· omega); apply zX; (· (first | omega | (dsimp only; omega)))) | ((first | apply yJ | apply yK | apply yL | apply yM | apply yN | apply yO); (· exact hgA); (· exact hsA)) | (apply yNP; (· exact hgA); (· exact hsA)) | ((first | apply zA | apply zC | apply zE | apply zG); (· omega)) | ((first | apply zB | apply zD | apply zF | apply zH); (· omega)) | ((first | apply zI | apply zK); (· assumption)) | ((first | apply zJ | apply zL); (· assumption)) | ((first | apply xA | apply xC | apply xE | apply xG); (· first | assumption | rfl)) | ((first | apply xB | apply xD | apply xF | apply xH); (· first | assumption | kernel_rfl)) | fail)
            conv => whnf
            refine hT _ ⟨hoA, fun x h1 h2 => ?_, (hom4.of_get hoA (fun x h1 h2 => AHeap.set_ne _ _ (hnl x h2))).cast _ (fun a ha f hf => ?_)⟩
            · have h1' : x < H2.size + 3 := h1
              by_cases hl : x = H2.size + 2
              · subst hl
                exact Eq.trans hgA (Eq.symm hgA)
              · refine (yR _ _ (by simpa using hl)).trans ?_
                exact (hsame4 x (by omega) h2).trans ((hx x (by omega) hl).trans (hsame x h1 h2))
            · by_cases hai : a = i
              · rw [if_pos ⟨hai, hf⟩]
              · rw [if_neg (fun hh => hai hh.1)]
                unfold pm
                by_cases h5 : a < i
                · rw [if_pos h5, if_pos h5]
                · rw [if_neg h5, if_neg h5, if_neg hai, if_neg hai]
        · rintro HH ⟨hs, hsame, hom3⟩
          have hs' : H2.size + 3 ≤ HH.size := hs
          have gl := (hsame (H2.size + 2) hoA (nin _ (.inr (by omega)))).trans hgA
          have gd : HH.get (H2.size + 1) = some (.deferred []) := (hsame (H2.size + 1) hoA (nin _ (.inr (by omega)))).trans hgA
          have g6 : HH.get H1.size = some (.cells [.slice (some ⟨o, 0, none⟩) m.length m.length] true 0) := (hsame H1.size hoA (nin _ (.inr (by omega)))).trans hgA
          have ge : HH.get (H.size + 1) = some (.cells [iv 0] true 0) := (hsame (H.size + 1) hoA (nin _ (.inl (by omega)))).trans hgA
          have hHH : H.le HH := ⟨by omega, fun j hj => (hsame j hoA (nin j (.inl (by omega)))).trans (AHeap.le.get leA j hj)⟩
          have hdb : ∀ i f, -43980465111040 ≤ dotN m b i f b.length ∧ dotN m b i f b.length ≤ 43980465111040 := fun i f => by
            have := dotN_bd (A := 655360) (B := 8388607) (by omega) (by omega) (fun r hr => (hmr r hr).2) (fun r hr => (hbr r hr).2.2) i f b.length
            have hk8 : (b.length : Int) * (655360 * 8388607) ≤ 8 * (655360 * 8388607) := Int.mul_le_mul_of_nonneg_right (by omega) (by omega)
            omega
          have hom5 := hom3.cast (fun i f => dotN m b i f b.length) (fun a ha f _ => by simp [pm, ha])
          repeat' ((conv => whnf); first | ((first | (apply vB; (case h => assumption)) | (apply vA; (case h => assumption)) | (apply vC; (case h => assumption))); (case hk => exact kpA); (case he => omega)) | ((first | (apply vI; (case h => assumption)) | (apply vG; (case h => assumption)) | (apply vK; (case h => assumption))); (case hk => exact kpA); (case he => omega); (case hp => omega); (case' g => intro hr_ hc_)) | ((first | (apply vJ; (case h => assumption)) | (apply vH; (case h => assumption)) | (apply vL; (case h => assumption))); (case hk => exact kpA); (case he => omega); (case' g => intro hr_ hc_)) | (apply drawS_auto mixed tt_ok; (· kernel_rfl)) | apply zZ | apply yA | apply yB | ((first | apply zA | apply zC | apply zE | apply zG); (· assumption)) | ((first | apply zB | apply zD | apply zF | apply zH); (· assumption)) | apply zM | apply zN | apply zO | apply zP | apply zQ | apply zR | apply zS | apply zT | apply zU | (apply zV; (· omega)) | (apply zW; (· omega)) | (apply zX; (· (first | omega | (dsimp only; omega)))) | (apply zY; (try (apply zY; apply zX; (· omega))); apply zX; (· omega); apply zX; (· (first | omega | (dsimp only; omega)))) | ((first | apply yJ | apply yK | apply yL | apply yM | apply yN | apply yO); (· exact hgA); (· exact hsA)) | (apply yNP; (· exact hgA); (· exact hsA)) | ((first | apply zA | apply zC | apply zE | apply zG); (· omega)) | ((first | apply zB | apply zD | apply zF | apply zH); (· omega)) | ((first | apply zI | apply zK); (· assumption)) | ((first | apply zJ | apply zL); (· assumption)) | ((first | apply xA | apply xC | apply xE | apply xG); (· first | assumption | rfl)) | ((first | apply xB | apply xD | apply xF | apply xH); (· first | assumption | kernel_rfl)) | fail)
          conv => whnf
          refine loopS_gen (fun Hr hHr => ?_)
          have hz : HH.size ≤ Hr.size := by rw [hHr]; exact hoA
          have hx : ∀ x, x < HH.size → x ≠ H2.size + 2 → Hr.get x = HH.get x := by
            rw [hHr]
            intro x h1 h2
            (repeat (first | exact rfl | (refine (yR _ _ ?_).trans ?_; (· exact hoA)) | (refine (yS _ _ ?_).trans ?_; (· exact hoA)) | (refine (yT _ ?_).trans ?_; (· exact hoA))))
          have hleHr : H.le Hr := ⟨by omega, fun j hj => (hx j (by omega) (by omega)).trans (hHH.get j hj)⟩
          have hnl : ∀ x, x = o ∨ x ∈ rs → x ≠ H2.size + 2 := fun x hx => by
            rcases hx with rfl | hx
            · omega
            · have := hlt1 x hx; omega
          have homr := hom5.of_get (H' := Hr) (by omega) (fun x h1 h2 => hx x h1 (hnl x h2))
          refine loopS_mask tt_ok (fun (k : Nat × AHeap) => [.w, .w, .w, .w, .k, .k, .k, .w, .w, .w, .w, .w, .w, .w, .w, .w, .w, .w, .w, .w, .w, .w, .w, .w, .w, .w, .w, .w, .w, .w, .w, .w, .w, .w, .w, .w, .w, .w, .w, .w, .w, .w, .w, .w, .w, .w, .w, .w, .w, .w, .w, .w, .w, .w, .w, .w, .w, .w, .w, .w, .w, .w, .w, .w, .w, .w, .w, .k, .k, .p (iv k.1), .w, .w, .w, .w, .w, .w, .w, .w, .w, .w, .w, .w, .w, .w, .w, .w, .w, .w, .w]) (fun (k : Nat × AHeap) => k.2) (fun (k : Nat × AHeap) => k.1 ≤ m.length ∧ Hr.size ≤ k.2.size ∧ (∀ x, x < Hr.size → x ∉ rs → k.2.get x = Hr.get x) ∧ OMat k.2 (H.size + 2) o rs (matF (fun i f => if i < k.1 then clipF (rnd (dotN m b i f b.length) 65536) else dotN m b i f b.length) m.length b[0].length) []) (fun (k : Nat × AHeap) => m.length - k.1) (⟨0, Hr⟩) (⟨by omega, Nat.le_refl _, fun _ _ _ => rfl, homr.cast _ (fun a _ f _ => by simp)⟩) ?_ (fun k hk => ?_)
          · conv => whnf
            refine weakH_of (HW.refl _) ?_
            repeat' (first | exact WT.nil | refine WT.same ?_ | refine WT.drop ?_ | refine WT.int (by omega) ?_ | refine WT.eq (by assumption) ?_ | refine WT.bl (by first | assumption | (symm; assumption)) ?_ | refine WT.vv (by assumption) ?_)
          obtain ⟨k, H4⟩ := k
          obtain ⟨hk, hz4, hsame4, hom4⟩ := hk
          dsimp only at hk hz4 hsame4 hom4 ⊢
          by_cases hlt : k < m.length
          · skip
            repeat' ((conv => whnf); first | refine hom4.row hlt ?_ | ((first | (apply vB; (case h => assumption)) | (apply vA; (case h => assumption)) | (apply vC; (case h => assumption))); (case hk => exact kpA); (case he => omega)) | ((first | (apply vI; (case h => assumption)) | (apply vG; (case h => assumption)) | (apply vK; (case h => assumption))); (case hk => exact kpA); (case he => omega); (case hp => omega); (case' g => intro hr_ hc_)) | ((first | (apply vJ; (case h => assumption)) | (apply vH; (case h => assumption)) | (apply vL; (case h => assumption))); (case hk => exact kpA); (case he => omega); (case' g => intro hr_ hc_)) | (apply drawS_auto mixed tt_ok; (· kernel_rfl)) | apply zZ | apply yA | apply yB | ((first | apply zA | apply zC | apply zE | apply zG); (· assumption)) | ((first | apply zB | apply zD | apply zF | apply zH); (· assumption)) | apply zM | apply zN | apply zO | apply zP | apply zQ | apply zR | apply zS | apply zT | apply zU | (apply zV; (· omega)) | (apply zW; (· omega)) | (apply zX; (· (first | omega | (dsimp only; omega)))) | (apply zY; (try (apply zY; apply zX; (· omega))); apply zX; (· omega); apply zX; (· (first | omega | (dsimp only; omega)))) | ((first | apply yJ | apply yK | apply yL | apply yM | apply yN | apply yO); (· exact hgA); (· exact hsA)) | (apply yNP; (· exact hgA); (· exact hsA)) | ((first | apply zA | apply zC | apply zE | apply zG); (· omega)) | ((first | apply zB | apply zD | apply zF | apply zH); (· omega)) | ((first | apply zI | apply zK); (· assumption)) | ((first | apply zJ | apply zL); (· assumption)) | ((first | apply xA | apply xC | apply xE | apply xG); (· first | assumption | rfl)) | ((first | apply xB | apply xD | apply xF | apply xH); (· first | assumption | kernel_rfl)) | fail)
            conv => whnf
            refine loopS_mask tt_ok (fun (j : Nat × AHeap) => [.w, .w, .w, .w, .k, .k, .k, .w, .w, .w, .w, .w, .k, .w, .w, .w, .w, .w, .w, .w, .w, .w, .w, .w, .w, .w, .w, .w, .w, .w, .w, .w, .w, .w, .w, .w, .w, .w, .w, .w, .w, .w, .w, .w, .w, .w, .w, .w, .w, .w, .w, .w, .w, .w, .w, .w, .w, .w, .w, .w, .w, .w, .w, .w, .w, .w, .w, .k, .k, .k, .w, .w, .w, .k, .k, .p (iv j.1), .w, .w, .w, .w, .w, .w, .w, .w, .w, .w, .w, .w, .w]) (fun (j : Nat × AHeap) => j.2) (fun (j : Nat × AHeap) => j.1 ≤ b[0].length ∧ Hr.size ≤ j.2.size ∧ (∀ x, x < Hr.size → x ∉ rs → j.2.get x = Hr.get x) ∧ OMat j.2 (H.size + 2) o rs (matF (fun i f => if i < k ∨ (i = k ∧ f < j.1) then clipF (rnd (dotN m b i f b.length) 65536) else dotN m b i f b.length) m.length b[0].length) []) (fun (j : Nat × AHeap) => b[0].length - j.1) (⟨0, H4⟩) (⟨by omega, hz4, hsame4, hom4.cast _ (fun a _ f _ => by simp)⟩) ?_ (fun j hj => ?_)
            · conv => whnf
              refine weakH_of (HW.refl _) ?_
              repeat' (first | exact WT.nil | refine WT.same ?_ | refine WT.drop ?_ | refine WT.int (by omega) ?_ | refine WT.eq (by assumption) ?_ | refine WT.bl (by first | assumption | (symm; assumption)) ?_ | refine WT.vv (by assumption) ?_)
            obtain ⟨j, H5⟩ := j
            obtain ⟨hj, hz5, hsame5, hom5⟩ := hj
            dsimp only at hj hz5 hsame5 hom5 ⊢
            by_cases hlj : j < b[0].length
            · have e1 : (if k < k ∨ k = k ∧ j < j then clipF (rnd (dotN m b k j b.length) 65536) else dotN m b k j b.length) = dotN m b k j b.length := by simp
              have hdk := hdb k j
              repeat' ((conv => whnf); first | refine hom5.at hlt hlj ?_; rw [e1] | (apply rounded_c; (· omega); (· omega)) | (apply bounded_c; (· omega)) | refine hom5.put2 hlt hlj (fun i f => if i < k ∨ (i = k ∧ f < j + 1) then clipF (rnd (dotN m b i f b.length) 65536) else dotN m b i f b.length) (fun i _ c _ => ?_) (fun H6 hom6 hkp6 => ?_); exact rclip_aux (f := fun i f => dotN m b i f b.length) rfl i c | ((first | (apply vB; (case h => assumption)) | (apply vA; (case h => assumption)) | (apply vC; (case h => assumption))); (case hk => exact kpA); (case he => omega)) | ((first | (apply vI; (case h => assumption)) | (apply vG; (case h => assumption)) | (apply vK; (case h => assumption))); (case hk => exact kpA); (case he => omega); (case hp => omega); (case' g => intro hr_ hc_)) | ((first | (apply vJ; (case h => assumption)) | (apply vH; (case h => assumption)) | (apply vL; (case h => assumption))); (case hk => exact kpA); (case he => omega); (case' g => intro hr_ hc_)) | (apply drawS_auto mixed tt_ok; (· kernel_rfl)) | apply zZ | apply yA | apply yB | ((first | apply zA | apply zC | apply zE | apply zG); (· assumption)) | ((first | apply zB | apply zD | apply zF | apply zH); (· assumption)) | apply zM | apply zN | apply zO | apply zP | apply zQ | apply zR | apply zS | apply zT | apply zU | (apply zV; (· omega)) | (apply zW; (· omega)) | (apply zX; (· (first | omega | (dsimp only; omega)))) | (apply zY; (try (apply zY; apply zX; (· omega))); apply zX; (· omega); apply zX; (· (first | omega | (dsimp only; omega)))) | ((first | apply yJ | apply yK | apply yL | apply yM | apply yN | apply yO); (· exact hgA); (· exact hsA)) | (apply yNP; (· exact hgA); (· exact hsA)) | ((first | apply zA | apply zC | apply zE | apply zG); (· omega)) | ((first | apply zB | apply zD | apply zF | apply zH); (· omega)) | ((first | apply zI | apply zK); (· assumption)) | ((first | apply zJ | apply zL); (· assumption)) | ((first | apply xA | apply xC | apply xE | apply xG); (· first | assumption | rfl)) | ((first | apply xB | apply xD | apply xF | apply xH); (· first | assumption | kernel_rfl)) | fail)
              conv => whnf
              apply Exists.intro (j + 1, H6)
              refine ⟨?inv, ?mu, ?wk⟩
              case wk =>
                conv => whnf
                refine weakH_of (HW.refl _) ?_
                repeat' (first | exact WT.nil | refine WT.same ?_ | refine WT.drop ?_ | refine WT.int (by omega) ?_ | refine WT.eq (by assumption) ?_ | refine WT.bl (by first | assumption | (symm; assumption)) ?_ | refine WT.vv (by assumption) ?_)
              case mu => first | omega | (dsimp only; omega)
              case inv => exact ⟨by omega, by rw [hkp6.size]; exact hz5, fun x h1 h2 => (hkp6.get x h2).trans (hsame5 x h1 h2), hom6⟩
            · have hjl : j = b[0].length := by omega
              subst hjl
              repeat' ((conv => whnf); first | ((first | (apply vB; (case h => assumption)) | (apply vA; (case h => assumption)) | (apply vC; (case h => assumption))); (case hk => exact kpA); (case he => omega)) | ((first | (apply vI; (case h => assumption)) | (apply vG; (case h => assumption)) | (apply vK; (case h => assumption))); (case hk => exact kpA); (case he => omega); (case hp => omega); (case' g => intro hr_ hc_)) | ((first | (apply vJ; (case h => assumption)) | (apply vH; (case h => assumption)) | (apply vL; (case h => assumption))); (case hk => exact kpA); (case he => omega); (case' g => intro hr_ hc_)) | (apply drawS_auto mixed tt_ok; (· kernel_rfl)) | apply zZ | apply yA | apply yB | ((first | apply zA | apply zC | apply zE | apply zG); (· assumption)) | ((first | apply zB | apply zD | apply zF | apply zH); (· assumption)) | apply zM | apply zN | apply zO | apply zP | apply zQ | apply zR | apply zS | apply zT | apply zU | (apply zV; (· omega)) | (apply zW; (· omega)) | (apply zX; (· (first | omega | (dsimp only; omega)))) | (apply zY; (try (apply zY; apply zX; (· omega))); apply zX; (· omega); apply zX; (· (first | omega | (dsimp only; omega)))) | ((first | apply yJ | apply yK | apply yL | apply yM | apply yN | apply yO); (· exact hgA); (· exact hsA)) | (apply yNP; (· exact hgA); (· exact hsA)) | ((first | apply zA | apply zC | apply zE | apply zG); (· omega)) | ((first | apply zB | apply zD | apply zF | apply zH); (· omega)) | ((first | apply zI | apply zK); (· assumption)) | ((first | apply zJ | apply zL); (· assumption)) | ((first | apply xA | apply xC | apply xE | apply xG); (· first | assumption | rfl)) | ((first | apply xB | apply xD | apply xF | apply xH); (· first | assumption | kernel_rfl)) | fail)
              conv => whnf
              apply Exists.intro (k + 1, H5)
              refine ⟨?inv, ?mu, ?wk⟩
              case wk =>
                conv => whnf
                refine weakH_of (HW.refl _) ?_
                repeat' (first | exact WT.nil | refine WT.same ?_ | refine WT.drop ?_ | refine WT.int (by omega) ?_ | refine WT.eq (by assumption) ?_ | refine WT.bl (by first | assumption | (symm; assumption)) ?_ | refine WT.vv (by assumption) ?_)
              case mu => first | omega | (dsimp only; omega)
              case inv => exact ⟨by omega, hz5, hsame5, hom5.cast _ (fun i _ c hc => by
                have : (i < k ∨ i = k ∧ c < b[0].length) ↔ i < k + 1 := by omega
                simp [this])⟩
          · have hkn : k = m.length := by omega
            subst hkn
            have g64 : H4.get H1.size = some (.cells [.slice (some ⟨o, 0, none⟩) m.length m.length] true 0) := (hsame4 _ (by omega) (nin _ (.inr (by omega)))).trans ((hx _ (by omega) (by omega)).trans g6)
            have ge4 : H4.get (H.size + 1) = some (.cells [iv 0] true 0) := (hsame4 _ (by omega) (nin _ (.inl (by omega)))).trans ((hx _ (by omega) (by omega)).trans ge)
            have gd4 : H4.get (H2.size + 1) = some (.deferred []) := (hsame4 _ (by omega) (nin _ (.inr (by omega)))).trans ((hx _ (by omega) (by omega)).trans gd)
            have hle4 : H.le H4 := ⟨by omega, fun j hj => (hsame4 j (by omega) (nin j (.inl (by omega)))).trans (hleHr.get j hj)⟩
            have hom6 := hom4.cast (appF m b) (fun i hi c hc => by simp [hi, appF])
            have hbd : ∀ x, x = o ∨ x ∈ rs → H.size + 2 ≤ x ∧ x < H1.size := fun x hx => by
              rcases hx with rfl | hx
              · exact ho1
              · exact ⟨hlo x hx, hlt1 x hx⟩
            repeat' ((conv => whnf); first | (apply caught_ret; (· exact hoA); (· exact hgA); intro H5 hle5 hg5) | ((first | (apply vB; (case h => assumption)) | (apply vA; (case h => assumption)) | (apply vC; (case h => assumption))); (case hk => exact kpA); (case he => omega)) | ((first | (apply vI; (case h => assumption)) | (apply vG; (case h => assumption)) | (apply vK; (case h => assumption))); (case hk => exact kpA); (case he => omega); (case hp => omega); (case' g => intro hr_ hc_)) | ((first | (apply vJ; (case h => assumption)) | (apply vH; (case h => assumption)) | (apply vL; (case h => assumption))); (case hk => exact kpA); (case he => omega); (case' g => intro hr_ hc_)) | (apply drawS_auto mixed tt_ok; (· kernel_rfl)) | apply zZ | apply yA | apply yB | ((first | apply zA | apply zC | apply zE | apply zG); (· assumption)) | ((first | apply zB | apply zD | apply zF | apply zH); (· assumption)) | apply zM | apply zN | apply zO | apply zP | apply zQ | apply zR | apply zS | apply zT | apply zU | (apply zV; (· omega)) | (apply zW; (· omega)) | (apply zX; (· (first | omega | (dsimp only; omega)))) | (apply zY; (try (apply zY; apply zX; (· omega))); apply zX; (· omega); apply zX; (· (first | omega | (dsimp only; omega)))) | ((first | apply yJ | apply yK | apply yL | apply yM | apply yN | apply yO); (· exact hgA); (· exact hsA)) | (apply yNP; (· exact hgA); (· exact hsA)) | ((first | apply zA | apply zC | apply zE | apply zG); (· omega)) | ((first | apply zB | apply zD | apply zF | apply zH); (· omega)) | ((first | apply zI | apply zK); (· assumption)) | ((first | apply zJ | apply zL); (· assumption)) | ((first | apply xA | apply xC | apply xE | apply xG); (· first | assumption | rfl)) | ((first | apply xB | apply xD | apply xF | apply xH); (· first | assumption | kernel_rfl)) | fail)
            conv => whnf
            have hs5 : H4.size ≤ H5.size := hle5.size
            have hom7 := hom6.of_get (H' := H5) hs5 (fun x h1 h2 => (hle5.get x (by simpa using h1)).trans (by
              obtain ⟨h3, h4⟩ := hbd x h2
              (repeat (first | exact rfl | (refine (yR _ _ ?_).trans ?_; (· exact hoA)) | (refine (yS _ _ ?_).trans ?_; (· exact hoA)) | (refine (yT _ ?_).trans ?_; (· exact hoA))))))
            refine ⟨_, HW.fz _ H.size, h _ _ _ (AHeap.le.fz (AHeap.le.trans leA hle5) (Nat.le_refl _)) (hom7.fzF (by omega) (by unfold maxN; omega) (by unfold maxN; omega) (fun i _ c _ => by unfold inR appF clipF; omega))⟩
      · have hE : appE m b = 11 := by rw [appE, if_pos ⟨hvm, hvb⟩, frames0 hm0, if_neg hd]
        refine callS_walk tt_ok Try.func15 rfl (by kernel_rfl) ?_
        conv => whnf
        repeat' ((conv => whnf); first | refine validM_v mtA hvm ?_ | (apply layValid_v; (· exact mtA); (· assumption)) | (apply must_ok; (· (first | rfl | assumption | exact decide_eq_true (by omega)))) | (apply must_no; (· (first | rfl | assumption | exact decide_eq_false (by omega)))) | (apply caught_panic; (· exact hoA); (· exact hgA); intro H2 hle2 hg2) | ((first | (apply vB; (case h => assumption)) | (apply vA; (case h => assumption)) | (apply vC; (case h => assumption))); (case hk => exact kpA); (case he => omega)) | ((first | (apply vI; (case h => assumption)) | (apply vG; (case h => assumption)) | (apply vK; (case h => assumption))); (case hk => exact kpA); (case he => omega); (case hp => omega); (case' g => intro hr_ hc_)) | ((first | (apply vJ; (case h => assumption)) | (apply vH; (case h => assumption)) | (apply vL; (case h => assumption))); (case hk => exact kpA); (case he => omega); (case' g => intro hr_ hc_)) | (apply drawS_auto mixed tt_ok; (· kernel_rfl)) | apply zZ | apply yA | apply yB | ((first | apply zA | apply zC | apply zE | apply zG); (· assumption)) | ((first | apply zB | apply zD | apply zF | apply zH); (· assumption)) | apply zM | apply zN | apply zO | apply zP | apply zQ | apply zR | apply zS | apply zT | apply zU | (apply zV; (· omega)) | (apply zW; (· omega)) | (apply zX; (· (first | omega | (dsimp only; omega)))) | (apply zY; (try (apply zY; apply zX; (· omega))); apply zX; (· omega); apply zX; (· (first | omega | (dsimp only; omega)))) | ((first | apply yJ | apply yK | apply yL | apply yM | apply yN | apply yO); (· exact hgA); (· exact hsA)) | (apply yNP; (· exact hgA); (· exact hsA)) | ((first | apply zA | apply zC | apply zE | apply zG); (· omega)) | ((first | apply zB | apply zD | apply zF | apply zH); (· omega)) | ((first | apply zI | apply zK); (· assumption)) | ((first | apply zJ | apply zL); (· assumption)) | ((first | apply xA | apply xC | apply xE | apply xG); (· first | assumption | rfl)) | ((first | apply xB | apply xD | apply xF | apply xH); (· first | assumption | kernel_rfl)) | fail)
        conv => whnf
        exact bad_ 11 hE (by omega) _ (AHeap.le.trans leA hle2)
end Go.Abs
