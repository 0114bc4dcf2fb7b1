/- Contracts of the volume functions on ramps. -/
import Derived.Test.YtoakdiccepcelaaD06
import Derived.Test.YtoakdiccepcelaaV06
set_option linter.all false
set_option maxHeartbeats 400000
set_option maxRecDepth 20000
namespace Go.Abs
open Go Go.Proofs

theorem within_t {n lo hi : Int} (hb : lo ≤ n ∧ n ≤ hi) {H : AHeap} {K : CK} (h : K (.returned (.bool true)) H) : callS P (fnV 48) [iv n, iv lo, iv hi] H K :=
  within_c (by simpa [hb.1, hb.2] using h)
theorem within_f {n lo hi : Int} (hb : ¬(lo ≤ n ∧ n ≤ hi)) {H : AHeap} {K : CK} (h : K (.returned (.bool false)) H) : callS P (fnV 48) [iv n, iv lo, iv hi] H K :=
  within_c (by
    have : (decide (lo ≤ n) && decide (n ≤ hi)) = false := by
      rw [Bool.and_eq_false_iff, decide_eq_false_iff_not, decide_eq_false_iff_not]; omega
    rw [this]; exact h)
theorem odd_v {n : Int} {b : Bool} (hb : bad n = b) {H : AHeap} {K : CK} (h : K (.returned (.bool b)) H) : callS P (fnV 47) [iv n] H K := odd_c (by subst hb; exact h)
theorem gain_v {n : Int} {b : Bool} (hb : bad n = b) {H : AHeap} {K : CK} (h : K (.returned (.bool (!b))) H) : callS P (fnV 50) [iv n] H K := gain_c (by subst hb; exact h)
theorem must_t {e : Int} {H : AHeap} {K : CK} (h : K (.returned (.tuple #[])) H) : callS P (fnV 45) [.bool true, iv e] H K := by
  refine callS_walk tt_ok Try.func45 rfl (by kernel_rfl) ?_
  conv => whnf
  repeat' ((conv => whnf); first | apply yA | apply yB | ((first | apply zA | apply zC | apply zE | apply zG); (· assumption)) | ((first | apply zB | apply zD | apply zF | apply zH); (· assumption)) | apply zM | apply zN | apply zO | apply zP | apply zQ | apply zR | apply zS | apply zT | apply zU | (apply zV; (· omega)) | (apply zW; (· omega)) | (apply zX; (· (first | omega | (dsimp only; omega)))) | (apply zY; (try (apply zY; apply zX; (· omega))); apply zX; (· omega); apply zX; (· (first | omega | (dsimp only; omega)))) | ((first | apply zA | apply zC | apply zE | apply zG); (· omega)) | ((first | apply zB | apply zD | apply zF | apply zH); (· omega)) | ((first | apply zI | apply zK); (· assumption)) | ((first | apply zJ | apply zL); (· assumption)) | fail)
  conv => whnf
  exact h
theorem must_f {e : Int} {H : AHeap} {K : CK} (h : K (.panicked [{ v := .iface 107 (.agg #[iv e]), recovered := false }]) H) : callS P (fnV 45) [.bool false, iv e] H K := by
  refine callS_walk tt_ok Try.func45 rfl (by kernel_rfl) ?_
  conv => whnf
  repeat' ((conv => whnf); first | apply yA | apply yB | ((first | apply zA | apply zC | apply zE | apply zG); (· assumption)) | ((first | apply zB | apply zD | apply zF | apply zH); (· assumption)) | apply zM | apply zN | apply zO | apply zP | apply zQ | apply zR | apply zS | apply zT | apply zU | (apply zV; (· omega)) | (apply zW; (· omega)) | (apply zX; (· (first | omega | (dsimp only; omega)))) | (apply zY; (try (apply zY; apply zX; (· omega))); apply zX; (· omega); apply zX; (· (first | omega | (dsimp only; omega)))) | ((first | apply zA | apply zC | apply zE | apply zG); (· omega)) | ((first | apply zB | apply zD | apply zF | apply zH); (· omega)) | ((first | apply zI | apply zK); (· assumption)) | ((first | apply zJ | apply zL); (· assumption)) | fail)
  conv => whnf
  exact h
theorem must_ok {b : Bool} {e : Int} {H : AHeap} {K : CK} (hb : b = true) (h : K (.returned (.tuple #[])) H) : callS P (fnV 45) [.bool b, iv e] H K := by subst hb; exact must_t h
theorem must_no {b : Bool} {e : Int} {H : AHeap} {K : CK} (hb : b = false) (h : K (.panicked [{ v := .iface 107 (.agg #[iv e]), recovered := false }]) H) : callS P (fnV 45) [.bool b, iv e] H K := by subst hb; exact must_f h
theorem caught_ret {c : Nat} {e0 : Int} {H : AHeap} {K : AEnd → FrameMode → AHeap → Prop} (hc : c < H.size) (hg : H.get c = some (.cells [iv e0] true 0))
    (h : ∀ H', H.le H' → H'.get c = some (.cells [iv e0] true 0) → K (.returned (.tuple #[])) .returning H') : defS P 44 [.pointer (some ⟨c, 0, none⟩)] .returning H K := by
  refine defS_walk tt_ok Try.func44 rfl (by kernel_rfl) ?_
  conv => whnf
  repeat' ((conv => whnf); first | ((first | (apply vB; (case h => assumption)) | (apply vA; (case h => assumption)) | (apply vC; (case h => assumption))); (case hk => exact kpA); (case he => omega)) | ((first | (apply vI; (case h => assumption)) | (apply vG; (case h => assumption)) | (apply vK; (case h => assumption))); (case hk => exact kpA); (case he => omega); (case hp => omega); (case' g => intro hr_ hc_)) | ((first | (apply vJ; (case h => assumption)) | (apply vH; (case h => assumption)) | (apply vL; (case h => assumption))); (case hk => exact kpA); (case he => omega); (case' g => intro hr_ hc_)) | (apply drawS_auto mixed tt_ok; (· kernel_rfl)) | apply zZ | apply yA | apply yB | ((first | apply zA | apply zC | apply zE | apply zG); (· assumption)) | ((first | apply zB | apply zD | apply zF | apply zH); (· assumption)) | apply zM | apply zN | apply zO | apply zP | apply zQ | apply zR | apply zS | apply zT | apply zU | (apply zV; (· omega)) | (apply zW; (· omega)) | (apply zX; (· (first | omega | (dsimp only; omega)))) | (apply zY; (try (apply zY; apply zX; (· omega))); apply zX; (· omega); apply zX; (· (first | omega | (dsimp only; omega)))) | ((first | apply yJ | apply yK | apply yL | apply yM | apply yN | apply yO); (· exact hgA); (· exact hsA)) | ((first | apply zA | apply zC | apply zE | apply zG); (· omega)) | ((first | apply zB | apply zD | apply zF | apply zH); (· omega)) | ((first | apply zI | apply zK); (· assumption)) | ((first | apply zJ | apply zL); (· assumption)) | fail)
  conv => whnf
  exact h _ leA hgA
theorem caught_panic {c : Nat} {e0 e : Int} {H : AHeap} {K : AEnd → FrameMode → AHeap → Prop} (hc : c < H.size) (hg : H.get c = some (.cells [iv e0] true 0))
    (h : ∀ H', (H.set c (.cells [iv e] true 0)).le H' → H'.get c = some (.cells [iv e] true 0) → K (.returned (.tuple #[])) (.panicking [{ v := .iface 107 (.agg #[iv e]), recovered := true }]) H') :
    defS P 44 [.pointer (some ⟨c, 0, none⟩)] (.panicking [{ v := .iface 107 (.agg #[iv e]), recovered := false }]) H K := by
  refine defS_walk tt_ok Try.func44 rfl (by kernel_rfl) ?_
  conv => whnf
  repeat' ((conv => whnf); first | ((first | (apply vB; (case h => assumption)) | (apply vA; (case h => assumption)) | (apply vC; (case h => assumption))); (case hk => exact kpA); (case he => omega)) | ((first | (apply vI; (case h => assumption)) | (apply vG; (case h => assumption)) | (apply vK; (case h => assumption))); (case hk => exact kpA); (case he => omega); (case hp => omega); (case' g => intro hr_ hc_)) | ((first | (apply vJ; (case h => assumption)) | (apply vH; (case h => assumption)) | (apply vL; (case h => assumption))); (case hk => exact kpA); (case he => omega); (case' g => intro hr_ hc_)) | (apply drawS_auto mixed tt_ok; (· kernel_rfl)) | apply zZ | apply yA | apply yB | ((first | apply zA | apply zC | apply zE | apply zG); (· assumption)) | ((first | apply zB | apply zD | apply zF | apply zH); (· assumption)) | apply zM | apply zN | apply zO | apply zP | apply zQ | apply zR | apply zS | apply zT | apply zU | (apply zV; (· omega)) | (apply zW; (· omega)) | (apply zX; (· (first | omega | (dsimp only; omega)))) | (apply zY; (try (apply zY; apply zX; (· omega))); apply zX; (· omega); apply zX; (· (first | omega | (dsimp only; omega)))) | ((first | apply yJ | apply yK | apply yL | apply yM | apply yN | apply yO); (· exact hgA); (· exact hsA)) | ((first | apply zA | apply zC | apply zE | apply zG); (· omega)) | ((first | apply zB | apply zD | apply zF | apply zH); (· omega)) | ((first | apply zI | apply zK); (· assumption)) | ((first | apply zJ | apply zL); (· assumption)) | fail)
  conv => whnf
  refine h _ ⟨by simp, fun i (hi : i < H.size) => ?_⟩ hgA
  by_cases h2 : i = c
  · subst h2
    exact Eq.trans hgA (AHeap.set_same _ _ _).symm
  · exact Eq.trans hgA (AHeap.set_ne _ _ h2).symm

def nowF (a b n i : Int) : Int := if n ≤ i then b else a + rnd ((b - a) * i) n
theorem mul_bd {a i A B : Int} (ha : -A ≤ a ∧ a ≤ A) (hi : 0 ≤ i ∧ i ≤ B) : -(A * B) ≤ a * i ∧ a * i ≤ A * B := by
  have hA : 0 ≤ A := by omega
  have hB : 0 ≤ B := by omega
  have h1 : A * i ≤ A * B := Int.mul_le_mul_of_nonneg_left hi.2 hA
  have h2 : a * i ≤ A * i := Int.mul_le_mul_of_nonneg_right ha.2 hi.1
  have h3 : -A * i ≤ a * i := Int.mul_le_mul_of_nonneg_right ha.1 hi.1
  have h4 : -A * i = -(A * i) := Int.neg_mul A i
  omega
abbrev isGain (x : Int) : Prop := 0 ≤ x ∧ x ≤ 655360
theorem rnd_bd {a n : Int} (hn : 0 < n) (A : Int) (ha : -A ≤ a ∧ a ≤ A) : -(A + n) ≤ rnd a n ∧ rnd a n ≤ A + n := by
  have h2 : n.tdiv 2 = n / 2 := Int.tdiv_eq_ediv_of_nonneg (by omega)
  have hb : ∀ x : Int, 0 ≤ x → 0 ≤ x.tdiv n ∧ x.tdiv n ≤ x := fun x hx => by
    rw [Int.tdiv_eq_ediv_of_nonneg hx]
    exact ⟨Int.ediv_nonneg hx (by omega), Int.ediv_le_self _ hx⟩
  unfold rnd
  split
  · have := hb (0 - a + n.tdiv 2) (by omega); omega
  · have := hb (a + n.tdiv 2) (by omega); omega
theorem now_c {a b n i : Int} (ha : isGain a) (hb : isGain b) (hn : 0 ≤ n ∧ n ≤ 1000000000) (hi : 0 ≤ i ∧ i ≤ n) {H : AHeap} {K : CK} (h : K (.returned (iv (nowF a b n i))) H) : callS P (fnV 77) [.agg #[iv a, iv b, iv n, iv i]] H K := by
  obtain ⟨ha1, ha2⟩ := ha
  obtain ⟨hb1, hb2⟩ := hb
  have hm := mul_bd (a := b - a) (i := i) (A := 655360) (B := 1000000000) (by omega) (by omega)
  refine callS_forget ?_
  refine callS_walk tt_ok Try.func77 rfl (by kernel_rfl) ?_
  conv => whnf
  unfold nowF at h
  by_cases hin : n ≤ i
  · rw [if_pos hin] at h
    repeat' ((conv => whnf); first | ((first | (apply vB; (case h => assumption)) | (apply vA; (case h => assumption)) | (apply vC; (case h => assumption))); (case hk => exact kpA); (case he => omega)) | ((first | (apply vI; (case h => assumption)) | (apply vG; (case h => assumption)) | (apply vK; (case h => assumption))); (case hk => exact kpA); (case he => omega); (case hp => omega); (case' g => intro hr_ hc_)) | ((first | (apply vJ; (case h => assumption)) | (apply vH; (case h => assumption)) | (apply vL; (case h => assumption))); (case hk => exact kpA); (case he => omega); (case' g => intro hr_ hc_)) | (apply drawS_auto mixed tt_ok; (· kernel_rfl)) | apply zZ | apply yA | apply yB | ((first | apply zA | apply zC | apply zE | apply zG); (· assumption)) | ((first | apply zB | apply zD | apply zF | apply zH); (· assumption)) | apply zM | apply zN | apply zO | apply zP | apply zQ | apply zR | apply zS | apply zT | apply zU | (apply zV; (· omega)) | (apply zW; (· omega)) | (apply zX; (· (first | omega | (dsimp only; omega)))) | (apply zY; (try (apply zY; apply zX; (· omega))); apply zX; (· omega); apply zX; (· (first | omega | (dsimp only; omega)))) | ((first | apply yJ | apply yK | apply yL | apply yM | apply yN | apply yO); (· exact hgA); (· exact hsA)) | ((first | apply zA | apply zC | apply zE | apply zG); (· omega)) | ((first | apply zB | apply zD | apply zF | apply zH); (· omega)) | ((first | apply zI | apply zK); (· assumption)) | ((first | apply zJ | apply zL); (· assumption)) | fail)
    conv => whnf
    exact ⟨leA, _, rfl, rfl, h⟩
  · rw [if_neg hin] at h
    have hr := rnd_bd (a := (b - a) * i) (n := n) (by omega) (655360 * 1000000000) hm
    repeat' ((conv => whnf); first | (apply rounded_c; (· omega); (· omega)) | ((first | (apply vB; (case h => assumption)) | (apply vA; (case h => assumption)) | (apply vC; (case h => assumption))); (case hk => exact kpA); (case he => omega)) | ((first | (apply vI; (case h => assumption)) | (apply vG; (case h => assumption)) | (apply vK; (case h => assumption))); (case hk => exact kpA); (case he => omega); (case hp => omega); (case' g => intro hr_ hc_)) | ((first | (apply vJ; (case h => assumption)) | (apply vH; (case h => assumption)) | (apply vL; (case h => assumption))); (case hk => exact kpA); (case he => omega); (case' g => intro hr_ hc_)) | (apply drawS_auto mixed tt_ok; (· kernel_rfl)) | apply zZ | apply yA | apply yB | ((first | apply zA | apply zC | apply zE | apply zG); (· assumption)) | ((first | apply zB | apply zD | apply zF | apply zH); (· assumption)) | apply zM | apply zN | apply zO | apply zP | apply zQ | apply zR | apply zS | apply zT | apply zU | (apply zV; (· omega)) | (apply zW; (· omega)) | (apply zX; (· (first | omega | (dsimp only; omega)))) | (apply zY; (try (apply zY; apply zX; (· omega))); apply zX; (· omega); apply zX; (· (first | omega | (dsimp only; omega)))) | ((first | apply yJ | apply yK | apply yL | apply yM | apply yN | apply yO); (· exact hgA); (· exact hsA)) | ((first | apply zA | apply zC | apply zE | apply zG); (· omega)) | ((first | apply zB | apply zD | apply zF | apply zH); (· omega)) | ((first | apply zI | apply zK); (· assumption)) | ((first | apply zJ | apply zL); (· assumption)) | fail)
    conv => whnf
    exact ⟨leA, _, rfl, rfl, h⟩

def applyF (x g : Int) : Int := max (0 - 8388607) (min 8388607 (rnd (x * g) 65536))
theorem apply_c {x g : Int} (hx : -8388607 ≤ x ∧ x ≤ 8388607) (hg : isGain g) {H : AHeap} {K : CK} (h : K (.returned (iv (applyF x g))) H) : callS P (fnV 69) [iv x, iv g] H K := by
  have hm := mul_bd (a := x) (i := g) (A := 8388607) (B := 655360) hx hg
  refine callS_walk tt_ok Try.func69 rfl (by kernel_rfl) ?_
  conv => whnf
  repeat' ((conv => whnf); first | (apply rounded_c; (· omega); (· omega)) | (apply bounded_c; (· omega)) | apply yA | apply yB | ((first | apply zA | apply zC | apply zE | apply zG); (· assumption)) | ((first | apply zB | apply zD | apply zF | apply zH); (· assumption)) | apply zM | apply zN | apply zO | apply zP | apply zQ | apply zR | apply zS | apply zT | apply zU | (apply zV; (· omega)) | (apply zW; (· omega)) | (apply zX; (· (first | omega | (dsimp only; omega)))) | (apply zY; (try (apply zY; apply zX; (· omega))); apply zX; (· omega); apply zX; (· (first | omega | (dsimp only; omega)))) | ((first | apply zA | apply zC | apply zE | apply zG); (· omega)) | ((first | apply zB | apply zD | apply zF | apply zH); (· omega)) | ((first | apply zI | apply zK); (· assumption)) | ((first | apply zJ | apply zL); (· assumption)) | fail)
  conv => whnf
  exact h
theorem rnd2_eq {a n : Int} (ha : 0 ≤ a) (hn : 0 < n) : rnd2 a n = rnd a n := by
  unfold rnd2 rnd
  have h2 : n.tdiv 2 = n / 2 := Int.tdiv_eq_ediv_of_nonneg (by omega)
  rw [if_neg (show ¬ a < 0 by omega), Int.tdiv_eq_ediv_of_nonneg ha, Int.tmod_eq_emod_of_nonneg ha, h2, Int.tdiv_eq_ediv_of_nonneg (show 0 ≤ a + n / 2 by omega)]
  have h3 := Int.mul_ediv_add_emod a n
  have h4 := Int.emod_nonneg a (show n ≠ 0 by omega)
  have h5 := Int.emod_lt_of_pos a hn
  have e : a + n / 2 = (a % n + n / 2) + n * (a / n) := by omega
  rw [e, Int.add_mul_ediv_left _ _ (show n ≠ 0 by omega)]
  split
  · have h6 : (a % n + n / 2) / n = 1 := by
      apply Int.le_antisymm
      · apply Int.lt_add_one_iff.1
        exact Int.ediv_lt_of_lt_mul hn (by omega)
      · exact (Int.le_ediv_iff_mul_le hn).2 (by omega)
    omega
  · have h6 : (a % n + n / 2) / n = 0 := Int.ediv_eq_zero_of_lt (by omega) (by omega)
    omega
theorem rnd_neg {a n : Int} (ha : a < 0) : rnd a n = 0 - rnd (0 - a) n := by
  unfold rnd
  rw [if_pos ha, if_neg (show ¬ (0 - a < 0) by omega)]
theorem refRounded_c {a n : Int} (ha : -4611686018427387904 ≤ a ∧ a ≤ 4611686018427387904) (hn : 0 < n ∧ n ≤ 4611686018427387904) {H : AHeap} {K : CK} (h : K (.returned (iv (rnd a n))) H) : callS P (fnV 61) [iv a, iv n] H K := by
  by_cases h0 : a < 0
  · exact rounded2_neg ⟨ha.1, h0⟩ hn (by rw [rnd2_eq (by omega) hn.1, ← rnd_neg h0]; exact h)
  · exact rounded2_pos ⟨by omega, ha.2⟩ hn (by rw [rnd2_eq (by omega) hn.1]; exact h)
theorem refBounded_c {n lo hi : Int} {H : AHeap} {K : CK} (h : K (.returned (iv (max lo (min hi n)))) H) : callS P (fnV 89) [iv n, iv lo, iv hi] H K := by
  refine callS_walk tt_ok Try.func89 rfl (by kernel_rfl) ?_
  conv => whnf
  repeat' ((conv => whnf); first | apply yA | apply yB | ((first | apply zA | apply zC | apply zE | apply zG); (· assumption)) | ((first | apply zB | apply zD | apply zF | apply zH); (· assumption)) | apply zM | apply zN | apply zO | apply zP | apply zQ | apply zR | apply zS | apply zT | apply zU | (apply zV; (· omega)) | (apply zW; (· omega)) | (apply zX; (· (first | omega | (dsimp only; omega)))) | (apply zY; (try (apply zY; apply zX; (· omega))); apply zX; (· omega); apply zX; (· (first | omega | (dsimp only; omega)))) | ((first | apply zA | apply zC | apply zE | apply zG); (· omega)) | ((first | apply zB | apply zD | apply zF | apply zH); (· omega)) | ((first | apply zI | apply zK); (· assumption)) | ((first | apply zJ | apply zL); (· assumption)) | fail)
  conv => whnf
  exact h
theorem clip_c {n : Int} {H : AHeap} {K : CK} (h : K (.returned (iv (max (0 - 8388607) (min 8388607 n)))) H) : callS P (fnV 65) [iv n] H K := by
  refine callS_walk tt_ok Try.func65 rfl (by kernel_rfl) ?_
  conv => whnf
  repeat' ((conv => whnf); first | (apply refBounded_c) | apply yA | apply yB | ((first | apply zA | apply zC | apply zE | apply zG); (· assumption)) | ((first | apply zB | apply zD | apply zF | apply zH); (· assumption)) | apply zM | apply zN | apply zO | apply zP | apply zQ | apply zR | apply zS | apply zT | apply zU | (apply zV; (· omega)) | (apply zW; (· omega)) | (apply zX; (· (first | omega | (dsimp only; omega)))) | (apply zY; (try (apply zY; apply zX; (· omega))); apply zX; (· omega); apply zX; (· (first | omega | (dsimp only; omega)))) | ((first | apply zA | apply zC | apply zE | apply zG); (· omega)) | ((first | apply zB | apply zD | apply zF | apply zH); (· omega)) | ((first | apply zI | apply zK); (· assumption)) | ((first | apply zJ | apply zL); (· assumption)) | fail)
  conv => whnf
  exact h
theorem times_c {x g : Int} (hx : -8388607 ≤ x ∧ x ≤ 8388607) (hg : isGain g) {H : AHeap} {K : CK} (h : K (.returned (iv (applyF x g))) H) : callS P (fnV 52) [iv x, iv g] H K := by
  have hm := mul_bd (a := x) (i := g) (A := 8388607) (B := 655360) hx hg
  refine callS_walk tt_ok Try.func52 rfl (by kernel_rfl) ?_
  conv => whnf
  repeat' ((conv => whnf); first | (apply refRounded_c; (· omega); (· omega)) | (apply clip_c) | apply yA | apply yB | ((first | apply zA | apply zC | apply zE | apply zG); (· assumption)) | ((first | apply zB | apply zD | apply zF | apply zH); (· assumption)) | apply zM | apply zN | apply zO | apply zP | apply zQ | apply zR | apply zS | apply zT | apply zU | (apply zV; (· omega)) | (apply zW; (· omega)) | (apply zX; (· (first | omega | (dsimp only; omega)))) | (apply zY; (try (apply zY; apply zX; (· omega))); apply zX; (· omega); apply zX; (· (first | omega | (dsimp only; omega)))) | ((first | apply zA | apply zC | apply zE | apply zG); (· omega)) | ((first | apply zB | apply zD | apply zF | apply zH); (· omega)) | ((first | apply zI | apply zK); (· assumption)) | ((first | apply zJ | apply zL); (· assumption)) | fail)
  conv => whnf
  exact h
theorem grown_c {a b n i : Int} (ha : isGain a) (hb : isGain b) (hn : 0 ≤ n ∧ n ≤ 1000000000) (hi : 0 ≤ i ∧ i ≤ 1000000000) {H : AHeap} {K : CK} (h : K (.returned (iv (nowF a b n i))) H) : callS P (fnV 53) [iv a, iv b, iv n, iv i] H K := by
  obtain ⟨ha1, ha2⟩ := ha
  obtain ⟨hb1, hb2⟩ := hb
  have hm := mul_bd (a := b - a) (i := i) (A := 655360) (B := 1000000000) (by omega) (by omega)
  refine callS_walk tt_ok Try.func53 rfl (by kernel_rfl) ?_
  conv => whnf
  unfold nowF at h
  by_cases hin : n ≤ i
  · rw [if_pos hin] at h
    repeat' ((conv => whnf); first | apply yA | apply yB | ((first | apply zA | apply zC | apply zE | apply zG); (· assumption)) | ((first | apply zB | apply zD | apply zF | apply zH); (· assumption)) | apply zM | apply zN | apply zO | apply zP | apply zQ | apply zR | apply zS | apply zT | apply zU | (apply zV; (· omega)) | (apply zW; (· omega)) | (apply zX; (· (first | omega | (dsimp only; omega)))) | (apply zY; (try (apply zY; apply zX; (· omega))); apply zX; (· omega); apply zX; (· (first | omega | (dsimp only; omega)))) | ((first | apply zA | apply zC | apply zE | apply zG); (· omega)) | ((first | apply zB | apply zD | apply zF | apply zH); (· omega)) | ((first | apply zI | apply zK); (· assumption)) | ((first | apply zJ | apply zL); (· assumption)) | fail)
    conv => whnf
    exact h
  · rw [if_neg hin] at h
    have hr := rnd_bd (a := (b - a) * i) (n := n) (by omega) (655360 * 1000000000) hm
    repeat' ((conv => whnf); first | (apply refRounded_c; (· omega); (· omega)) | apply yA | apply yB | ((first | apply zA | apply zC | apply zE | apply zG); (· assumption)) | ((first | apply zB | apply zD | apply zF | apply zH); (· assumption)) | apply zM | apply zN | apply zO | apply zP | apply zQ | apply zR | apply zS | apply zT | apply zU | (apply zV; (· omega)) | (apply zW; (· omega)) | (apply zX; (· (first | omega | (dsimp only; omega)))) | (apply zY; (try (apply zY; apply zX; (· omega))); apply zX; (· omega); apply zX; (· (first | omega | (dsimp only; omega)))) | ((first | apply zA | apply zC | apply zE | apply zG); (· omega)) | ((first | apply zB | apply zD | apply zF | apply zH); (· omega)) | ((first | apply zI | apply zK); (· assumption)) | ((first | apply zJ | apply zL); (· assumption)) | fail)
    conv => whnf
    exact h

/-! the laws of a ramp -/
theorem rnd_nonneg {a n : Int} (ha : 0 ≤ a) (hn : 0 < n) : rnd a n = (a + n / 2) / n := by
  unfold rnd
  rw [if_neg (by omega), Int.tdiv_eq_ediv_of_nonneg (show (0:Int) ≤ n by omega), Int.tdiv_eq_ediv_of_nonneg (show 0 ≤ a + n / 2 by omega)]
theorem rnd_ramp {d n i : Int} (hd : 0 ≤ d) (hi : 0 ≤ i ∧ i < n) : 0 ≤ rnd (d * i) n ∧ rnd (d * i) n ≤ d := by
  have h0 : 0 ≤ d * i := Int.mul_nonneg hd hi.1
  have hn : 0 < n := by omega
  rw [rnd_nonneg h0 hn]
  refine ⟨Int.ediv_nonneg (by omega) (by omega), ?_⟩
  have h1 : d * i ≤ d * (n - 1) := Int.mul_le_mul_of_nonneg_left (by omega) hd
  have h2 : d * (n - 1) = d * n - d := by rw [Int.mul_sub, Int.mul_one]
  apply Int.lt_add_one_iff.1
  refine Int.ediv_lt_of_lt_mul hn ?_
  rw [Int.add_mul, Int.one_mul]
  omega
theorem nowF_up {a b n i : Int} (hab : a ≤ b) (hi : 0 ≤ i) : a ≤ nowF a b n i ∧ nowF a b n i ≤ b := by
  unfold nowF
  split
  · omega
  · have := rnd_ramp (d := b - a) (n := n) (i := i) (by omega) (by omega); omega
theorem rnd_negmul {d n i : Int} (hd : d ≤ 0) (hi : 0 ≤ i) (hn : 0 < n) : rnd (d * i) n = 0 - rnd ((0 - d) * i) n := by
  have e : (0 - d) * i = 0 - d * i := by rw [Int.sub_mul, Int.zero_mul]
  have h0 : 0 ≤ (0 - d) * i := Int.mul_nonneg (by omega) hi
  rw [e] at h0 ⊢
  by_cases hz : d * i < 0
  · exact rnd_neg hz
  · have hz : d * i = 0 := by omega
    rw [hz]
    have : rnd 0 n = 0 := by
      rw [rnd_nonneg (by omega) hn]
      exact Int.ediv_eq_zero_of_lt (by omega) (by omega)
    simp [this]
theorem nowF_down {a b n i : Int} (hab : b ≤ a) (hi : 0 ≤ i) : b ≤ nowF a b n i ∧ nowF a b n i ≤ a := by
  unfold nowF
  split
  · omega
  · have := rnd_ramp (d := 0 - (b - a)) (n := n) (i := i) (by omega) (by omega)
    rw [rnd_negmul (by omega) hi (by omega)]
    omega
theorem nowF_gain {a b n i : Int} (ha : isGain a) (hb : isGain b) (hi : 0 ≤ i) : isGain (nowF a b n i) := by
  unfold isGain at *
  rcases Int.le_total a b with h | h
  · have := nowF_up (n := n) h hi; omega
  · have := nowF_down (n := n) h hi; omega

def rampRow (a b n : Int) (r : List Int) : List Int := (List.range r.length).map fun (i : Nat) => applyF (r.getD i 0) (nowF a b n i)
def rampE (a b n : Int) (m : List (List Int)) : Int := if blockB m = true then if isGain a ∧ isGain b ∧ 0 ≤ n ∧ n ≤ 1000000000 then 0 else 7 else 1
def rampM (a b n : Int) (m : List (List Int)) : List (List Int) := if blockB m = true then if isGain a ∧ isGain b ∧ 0 ≤ n ∧ n ≤ 1000000000 then m.map (rampRow a b n) else [] else []
def stepsL (a b : Int) (n : Nat) : List Int := (List.range n).map fun (i : Nat) => nowF a b n i
def stepsE (a b n : Int) : Int := if isGain a ∧ isGain b ∧ 0 ≤ n ∧ n ≤ 1000000000 then if n ≤ 4096 then 0 else 4 else 7
def stepsM (a b n : Int) : List Int := if isGain a ∧ isGain b ∧ 0 ≤ n ∧ n ≤ 1000000000 then if n ≤ 4096 then stepsL a b n.toNat else [] else []
end Go.Abs
