/- Contracts of the volume functions on ramps. -/
import Derived.Test.YtoakdiccepcelaaD06
import Derived.Test.YtoakdiccepcelaaV06
set_option linter.all false
set_option maxHeartbeats 400000
set_option maxRecDepth 20000
namespace Go.Abs
open Go Go.Proofs

theorem within_t {n lo hi : Int} (hb : lo ≤ n ∧ n ≤ hi) {H : AHeap} {K : CK} (h : K (.returned (.bool true)) H) : callS P (fnV 48) [iv n, iv lo, iv hi] H K :=
  within_c (by simpa [hb.1, hb.2] using h)
theorem within_f {n lo hi : Int} (hb : ¬(lo ≤ n ∧ n ≤ hi)) {H : AHeap} {K : CK} (h : K (.returned (.bool false)) H) : callS P (fnV 48) [iv n, iv lo, iv hi] H K :=
  within_c (by
    have : (decide (lo ≤ n) && decide (n ≤ hi)) = false := by
      rw [Bool.and_eq_false_iff, decide_eq_false_iff_not, decide_eq_false_iff_not]; omega
    rw [this]; exact h)
theorem odd_v {n : Int} {b : Bool} (hb : bad n = b) {H : AHeap} {K : CK} (h : K (.returned (.bool b)) H) : callS P (fnV 47) [iv n] H K := odd_c (by subst hb; exact h)
theorem gain_v {n : Int} {b : Bool} (hb : bad n = b) {H : AHeap} {K : CK} (h : K (.returned (.bool (!b))) H) : callS P (fnV 50) [iv n] H K := gain_c (by subst hb; exact h)
theorem must_t {e : Int} {H : AHeap} {K : CK} (h : K (.returned (.tuple #[])) H) : callS P (fnV 45) [.bool true, iv e] H K := by
  refine callS_walk tt_ok Try.func45 rfl (by kernel_rfl) ?_
  conv => whnf
  repeat' ((conv => whnf); first | apply yA | apply yB | ((first | apply zA | apply zC | apply zE | apply zG); (· assumption)) | ((first | apply zB | apply zD | apply zF | apply zH); (· assumption)) | apply zM | apply zN | apply zO | apply zP | apply zQ | apply zR | apply zS | apply zT | apply zU | (apply zV; (· omega)) | (apply zW; (· omega)) | (apply zX; (· (first | omega | (dsimp only; omega)))) | (apply zY; (try (apply zY; apply zX; (· omega))); apply zX; (· omega); apply zX; (· (first | omega | (dsimp only; omega)))) | ((first | apply zA | apply zC | apply zE | apply zG); (· omega)) | ((first | apply zB | apply zD | apply zF | apply zH); (· omega)) | ((first | apply zI | apply zK); (· assumption)) | ((first | apply zJ | apply zL); (· assumption)) | fail)
  conv => whnf
  exact h
theorem must_f {e : Int} {H : AHeap} {K : CK} (h : K (.panicked [{ v := .iface 107 (.agg #[iv e]), recovered := false }]) H) : callS P (fnV 45) [.bool false, iv e] H K := by
  refine callS_walk tt_ok Try.func45 rfl (by kernel_rfl) ?_
  conv => whnf
  repeat' ((conv => whnf); first | apply yA | apply yB | ((first | apply zA | apply zC | apply zE | apply zG); (· assumption)) | ((first | apply zB | apply zD | apply zF | apply zH); (· assumption)) | apply zM | apply zN | apply zO | apply zP | apply zQ | apply zR | apply zS | apply zT | apply zU | (apply zV; (· omega)) | (apply zW; (· omega)) | (apply zX; (· (first | omega | (dsimp only; omega)))) | (apply zY; (try (apply zY; apply zX; (· omega))); apply zX; (· omega); apply zX; (· (first | omega | (dsimp only; omega)))) | ((first | apply zA | apply zC | apply zE | apply zG); (· omega)) | ((first | apply zB | apply zD | apply zF | apply zH); (· omega)) | ((first | apply zI | apply zK); (· assumption)) | ((first | apply zJ | apply zL); (· assumption)) | fail)
  conv => whnf
  exact h
theorem must_ok {b : Bool} {e : Int} {H : AHeap} {K : CK} (hb : b = true) (h : K (.returned (.tuple #[])) H) : callS P (fnV 45) [.bool b, iv e] H K := by subst hb; exact must_t h
theorem must_no {b : Bool} {e : Int} {H : AHeap} {K : CK} (hb : b = false) (h : K (.panicked [{ v := .iface 107 (.agg #[iv e]), recovered := false }]) H) : callS P (fnV 45) [.bool b, iv e] H K := by subst hb; exact must_f h
theorem caught_ret {c : Nat} {e0 : Int} {H : AHeap} {K : AEnd → FrameMode → AHeap → Prop} (hc : c < H.size) (hg : H.get c = some (.cells [iv e0] true 0))
    (h : ∀ H', H.le H' → H'.get c = some (.cells [iv e0] true 0) → K (.returned (.tuple #[])) .returning H') : defS P 44 [.pointer (some ⟨c, 0, none⟩)] .returning H K := by
  refine defS_walk tt_ok Try.func44 rfl (by kernel_rfl) ?_
  conv => whnf
  repeat' ((conv => whnf); first | ((first | (apply yC; (case h => assumption); (case' he => refine ⟨by omega, ?_⟩)) | (apply yD; (case h => assumption); (case' he => refine ⟨by omega, ?_⟩)) | (apply yE; (case h => assumption); (case' he => refine ⟨by omega, by omega, fun hr_ => ?_⟩)) | (apply yF; (case h => assumption); (case' he => refine ⟨by omega, by omega, fun hr_ => ?_⟩)) | (apply yG; (case h => assumption); (case' he => refine ⟨by omega, ?_⟩)) | (apply yH; (case h => assumption); (case' he => refine ⟨by omega, fun hr_ => ?_⟩)) | (apply yI; (case h => assumption); (case' he => refine ⟨by omega, fun hr_ => ?_⟩))); (case hk => first | exact Kp.refl _ | (repeat (first | exact Kp.refl _ | assumption | refine yV ?_ _ | (apply yW; (case g => exact ⟨_, by (repeat (first | assumption | ((first | apply yP | apply yQ); (first | omega | (simp; done) | (simp; omega))) | ((first | refine (yR _ _ ?_).trans ?_ | refine (yS _ _ ?_).trans ?_ | refine (yT _ ?_).trans ?_ | refine (yU (by assumption) _ ?_).trans ?_); (· (first | omega | (simp; done) | (simp; omega)))) | exact rfl)), rfl⟩)) | (apply yX; (case g => exact ⟨_, by (repeat (first | assumption | ((first | apply yP | apply yQ); (first | omega | (simp; done) | (simp; omega))) | ((first | refine (yR _ _ ?_).trans ?_ | refine (yS _ _ ?_).trans ?_ | refine (yT _ ?_).trans ?_ | refine (yU (by assumption) _ ?_).trans ?_); (· (first | omega | (simp; done) | (simp; omega)))) | exact rfl)), rfl⟩)) | refine Kp.fz ?_ _ | exact yY (by assumption) | refine Kp.trans ?_ (yY (by assumption)))))) | (apply drawS_auto mixed tt_ok; (· kernel_rfl)) | apply zZ | apply yA | apply yB | ((first | apply zA | apply zC | apply zE | apply zG); (· assumption)) | ((first | apply zB | apply zD | apply zF | apply zH); (· assumption)) | apply zM | apply zN | apply zO | apply zP | apply zQ | apply zR | apply zS | apply zT | apply zU | (apply zV; (· omega)) | (apply zW; (· omega)) | (apply zX; (· (first | omega | (dsimp only; omega)))) | (apply zY; (try (apply zY; apply zX; (· omega))); apply zX; (· omega); apply zX; (· (first | omega | (dsimp only; omega)))) | ((first | apply yJ | apply yK | apply yL | apply yM | apply yN | apply yO); (· (repeat (first | assumption | ((first | apply yP | apply yQ); (first | omega | (simp; done) | (simp; omega))) | ((first | refine (yR _ _ ?_).trans ?_ | refine (yS _ _ ?_).trans ?_ | refine (yT _ ?_).trans ?_ | refine (yU (by assumption) _ ?_).trans ?_); (· (first | omega | (simp; done) | (simp; omega)))) | exact rfl))); (· (constructor <;> first | trivial | rfl | exact Nat.le_of_ble_eq_true rfl | ((try dsimp only); (try simp only [List.length_map, List.length_cons, List.length_nil, List.length_append, List.length_set, List.length_replicate, List.length_range]); omega)))) | ((first | apply zA | apply zC | apply zE | apply zG); (· omega)) | ((first | apply zB | apply zD | apply zF | apply zH); (· omega)) | ((first | apply zI | apply zK); (· assumption)) | ((first | apply zJ | apply zL); (· assumption)) | fail)
  conv => whnf
  exact h _ (by (repeat (first | exact AHeap.le.refl _ | assumption | refine AHeap.le.push ?_ _ | refine AHeap.le.set ?_ (by first | omega | (simp; done) | (simp; omega)) _ | refine AHeap.le.kill ?_ (by first | omega | (simp; done) | (simp; omega))))) (by (repeat (first | assumption | ((first | apply yP | apply yQ); (first | omega | (simp; done) | (simp; omega))) | ((first | refine (yR _ _ ?_).trans ?_ | refine (yS _ _ ?_).trans ?_ | refine (yT _ ?_).trans ?_ | refine (yU (by assumption) _ ?_).trans ?_); (· (first | omega | (simp; done) | (simp; omega)))) | exact rfl)))
theorem caught_panic {c : Nat} {e0 e : Int} {H : AHeap} {K : AEnd → FrameMode → AHeap → Prop} (hc : c < H.size) (hg : H.get c = some (.cells [iv e0] true 0))
    (h : ∀ H', (H.set c (.cells [iv e] true 0)).le H' → H'.get c = some (.cells [iv e] true 0) → K (.returned (.tuple #[])) (.panicking [{ v := .iface 107 (.agg #[iv e]), recovered := true }]) H') :
    defS P 44 [.pointer (some ⟨c, 0, none⟩)] (.panicking [{ v := .iface 107 (.agg #[iv e]), recovered := false }]) H K := by
  refine defS_walk tt_ok Try.func44 rfl (by kernel_rfl) ?_
  conv => whnf
  repeat' ((conv => whnf); first | ((first | (apply yC; (case h => assumption); (case' he => refine ⟨by omega, ?_⟩)) | (apply yD; (case h => assumption); (case' he => refine ⟨by omega, ?_⟩)) | (apply yE; (case h => assumption); (case' he => refine ⟨by omega, by omega, fun hr_ => ?_⟩)) | (apply yF; (case h => assumption); (case' he => refine ⟨by omega, by omega, fun hr_ => ?_⟩)) | (apply yG; (case h => assumption); (case' he => refine ⟨by omega, ?_⟩)) | (apply yH; (case h => assumption); (case' he => refine ⟨by omega, fun hr_ => ?_⟩)) | (apply yI; (case h => assumption); (case' he => refine ⟨by omega, fun hr_ => ?_⟩))); (case hk => first | exact Kp.refl _ | (repeat (first | exact Kp.refl _ | assumption | refine yV ?_ _ | (apply yW; (case g => exact ⟨_, by (repeat (first | assumption | ((first | apply yP | apply yQ); (first | omega | (simp; done) | (simp; omega))) | ((first | refine (yR _ _ ?_).trans ?_ | refine (yS _ _ ?_).trans ?_ | refine (yT _ ?_).trans ?_ | refine (yU (by assumption) _ ?_).trans ?_); (· (first | omega | (simp; done) | (simp; omega)))) | exact rfl)), rfl⟩)) | (apply yX; (case g => exact ⟨_, by (repeat (first | assumption | ((first | apply yP | apply yQ); (first | omega | (simp; done) | (simp; omega))) | ((first | refine (yR _ _ ?_).trans ?_ | refine (yS _ _ ?_).trans ?_ | refine (yT _ ?_).trans ?_ | refine (yU (by assumption) _ ?_).trans ?_); (· (first | omega | (simp; done) | (simp; omega)))) | exact rfl)), rfl⟩)) | refine Kp.fz ?_ _ | exact yY (by assumption) | refine Kp.trans ?_ (yY (by assumption)))))) | (apply drawS_auto mixed tt_ok; (· kernel_rfl)) | apply zZ | apply yA | apply yB | ((first | apply zA | apply zC | apply zE | apply zG); (· assumption)) | ((first | apply zB | apply zD | apply zF | apply zH); (· assumption)) | apply zM | apply zN | apply zO | apply zP | apply zQ | apply zR | apply zS | apply zT | apply zU | (apply zV; (· omega)) | (apply zW; (· omega)) | (apply zX; (· (first | omega | (dsimp only; omega)))) | (apply zY; (try (apply zY; apply zX; (· omega))); apply zX; (· omega); apply zX; (· (first | omega | (dsimp only; omega)))) | ((first | apply yJ | apply yK | apply yL | apply yM | apply yN | apply yO); (· (repeat (first | assumption | ((first | apply yP | apply yQ); (first | omega | (simp; done) | (simp; omega))) | ((first | refine (yR _ _ ?_).trans ?_ | refine (yS _ _ ?_).trans ?_ | refine (yT _ ?_).trans ?_ | refine (yU (by assumption) _ ?_).trans ?_); (· (first | omega | (simp; done) | (simp; omega)))) | exact rfl))); (· (constructor <;> first | trivial | rfl | exact Nat.le_of_ble_eq_true rfl | ((try dsimp only); (try simp only [List.length_map, List.length_cons, List.length_nil, List.length_append, List.length_set, List.length_replicate, List.length_range]); omega)))) | ((first | apply zA | apply zC | apply zE | apply zG); (· omega)) | ((first | apply zB | apply zD | apply zF | apply zH); (· omega)) | ((first | apply zI | apply zK); (· assumption)) | ((first | apply zJ | apply zL); (· assumption)) | fail)
  conv => whnf
  refine h _ ⟨by simp, fun i (hi : i < H.size) => ?_⟩ (by (repeat (first | assumption | ((first | apply yP | apply yQ); (first | omega | (simp; done) | (simp; omega))) | ((first | refine (yR _ _ ?_).trans ?_ | refine (yS _ _ ?_).trans ?_ | refine (yT _ ?_).trans ?_ | refine (yU (by assumption) _ ?_).trans ?_); (· (first | omega | (simp; done) | (simp; omega)))) | exact rfl)))
  by_cases h2 : i = c
  · subst h2
    exact Eq.trans (by (repeat (first | assumption | ((first | apply yP | apply yQ); (first | omega | (simp; done) | (simp; omega))) | ((first | refine (yR _ _ ?_).trans ?_ | refine (yS _ _ ?_).trans ?_ | refine (yT _ ?_).trans ?_ | refine (yU (by assumption) _ ?_).trans ?_); (· (first | omega | (simp; done) | (simp; omega)))) | exact rfl))) (AHeap.set_same _ _ _).symm
  · exact Eq.trans (by (repeat (first | assumption | ((first | apply yP | apply yQ); (first | omega | (simp; done) | (simp; omega))) | ((first | refine (yR _ _ ?_).trans ?_ | refine (yS _ _ ?_).trans ?_ | refine (yT _ ?_).trans ?_ | refine (yU (by assumption) _ ?_).trans ?_); (· (first | omega | (simp; done) | (simp; omega)))) | exact rfl))) (AHeap.set_ne _ _ h2).symm

def nowF (a b n i : Int) : Int := if n ≤ i then b else a + rnd ((b - a) * i) n
theorem mul_bd {a i A B : Int} (ha : -A ≤ a ∧ a ≤ A) (hi : 0 ≤ i ∧ i ≤ B) : -(A * B) ≤ a * i ∧ a * i ≤ A * B := by
  have hA : 0 ≤ A := by omega
  have hB : 0 ≤ B := by omega
  have h1 : A * i ≤ A * B := Int.mul_le_mul_of_nonneg_left hi.2 hA
  have h2 : a * i ≤ A * i := Int.mul_le_mul_of_nonneg_right ha.2 hi.1
  have h3 : -A * i ≤ a * i := Int.mul_le_mul_of_nonneg_right ha.1 hi.1
  have h4 : -A * i = -(A * i) := Int.neg_mul A i
  omega
abbrev isGain (x : Int) : Prop := 0 ≤ x ∧ x ≤ 655360
theorem bad_t {x : Int} : bad x = false ↔ isGain x := by
  unfold bad isGain
  simp
theorem rnd_bd {a n : Int} (hn : 0 < n) (A : Int) (ha : -A ≤ a ∧ a ≤ A) : -(A + n) ≤ rnd a n ∧ rnd a n ≤ A + n := by
  have h2 : n.tdiv 2 = n / 2 := Int.tdiv_eq_ediv_of_nonneg (by omega)
  have hb : ∀ x : Int, 0 ≤ x → 0 ≤ x.tdiv n ∧ x.tdiv n ≤ x := fun x hx => by
    rw [Int.tdiv_eq_ediv_of_nonneg hx]
    exact ⟨Int.ediv_nonneg hx (by omega), Int.ediv_le_self _ hx⟩
  unfold rnd
  split
  · have := hb (0 - a + n.tdiv 2) (by omega); omega
  · have := hb (a + n.tdiv 2) (by omega); omega
theorem now_c {a b n i : Int} (ha : isGain a) (hb : isGain b) (hn : 0 ≤ n ∧ n ≤ 1000000000) (hi : 0 ≤ i ∧ i ≤ n) {H : AHeap} {K : CK} (h : K (.returned (iv (nowF a b n i))) H) : callS P (fnV 77) [.agg #[iv a, iv b, iv n, iv i]] H K := by
  obtain ⟨ha1, ha2⟩ := ha
  obtain ⟨hb1, hb2⟩ := hb
  have hm := mul_bd (a := b - a) (i := i) (A := 655360) (B := 1000000000) (by omega) (by omega)
  refine callS_forget ?_
  refine callS_walk tt_ok Try.func77 rfl (by kernel_rfl) ?_
  conv => whnf
  unfold nowF at h
  by_cases hin : n ≤ i
  · rw [if_pos hin] at h
    repeat' ((conv => whnf); first | ((first | (apply yC; (case h => assumption); (case' he => refine ⟨by omega, ?_⟩)) | (apply yD; (case h => assumption); (case' he => refine ⟨by omega, ?_⟩)) | (apply yE; (case h => assumption); (case' he => refine ⟨by omega, by omega, fun hr_ => ?_⟩)) | (apply yF; (case h => assumption); (case' he => refine ⟨by omega, by omega, fun hr_ => ?_⟩)) | (apply yG; (case h => assumption); (case' he => refine ⟨by omega, ?_⟩)) | (apply yH; (case h => assumption); (case' he => refine ⟨by omega, fun hr_ => ?_⟩)) | (apply yI; (case h => assumption); (case' he => refine ⟨by omega, fun hr_ => ?_⟩))); (case hk => first | exact Kp.refl _ | (repeat (first | exact Kp.refl _ | assumption | refine yV ?_ _ | (apply yW; (case g => exact ⟨_, by (repeat (first | assumption | ((first | apply yP | apply yQ); (first | omega | (simp; done) | (simp; omega))) | ((first | refine (yR _ _ ?_).trans ?_ | refine (yS _ _ ?_).trans ?_ | refine (yT _ ?_).trans ?_ | refine (yU (by assumption) _ ?_).trans ?_); (· (first | omega | (simp; done) | (simp; omega)))) | exact rfl)), rfl⟩)) | (apply yX; (case g => exact ⟨_, by (repeat (first | assumption | ((first | apply yP | apply yQ); (first | omega | (simp; done) | (simp; omega))) | ((first | refine (yR _ _ ?_).trans ?_ | refine (yS _ _ ?_).trans ?_ | refine (yT _ ?_).trans ?_ | refine (yU (by assumption) _ ?_).trans ?_); (· (first | omega | (simp; done) | (simp; omega)))) | exact rfl)), rfl⟩)) | refine Kp.fz ?_ _ | exact yY (by assumption) | refine Kp.trans ?_ (yY (by assumption)))))) | (apply drawS_auto mixed tt_ok; (· kernel_rfl)) | apply zZ | apply yA | apply yB | ((first | apply zA | apply zC | apply zE | apply zG); (· assumption)) | ((first | apply zB | apply zD | apply zF | apply zH); (· assumption)) | apply zM | apply zN | apply zO | apply zP | apply zQ | apply zR | apply zS | apply zT | apply zU | (apply zV; (· omega)) | (apply zW; (· omega)) | (apply zX; (· (first | omega | (dsimp only; omega)))) | (apply zY; (try (apply zY; apply zX; (· omega))); apply zX; (· omega); apply zX; (· (first | omega | (dsimp only; omega)))) | ((first | apply yJ | apply yK | apply yL | apply yM | apply yN | apply yO); (· (repeat (first | assumption | ((first | apply yP | apply yQ); (first | omega | (simp; done) | (simp; omega))) | ((first | refine (yR _ _ ?_).trans ?_ | refine (yS _ _ ?_).trans ?_ | refine (yT _ ?_).trans ?_ | refine (yU (by assumption) _ ?_).trans ?_); (· (first | omega | (simp; done) | (simp; omega)))) | exact rfl))); (· (constructor <;> first | trivial | rfl | exact Nat.le_of_ble_eq_true rfl | ((try dsimp only); (try simp only [List.length_map, List.length_cons, List.length_nil, List.length_append, List.length_set, List.length_replicate, List.length_range]); omega)))) | ((first | apply zA | apply zC | apply zE | apply zG); (· omega)) | ((first | apply zB | apply zD | apply zF | apply zH); (· omega)) | ((first | apply zI | apply zK); (· assumption)) | ((first | apply zJ | apply zL); (· assumption)) | fail)
    conv => whnf
    exact ⟨by (repeat (first | exact AHeap.le.refl _ | assumption | refine AHeap.le.push ?_ _ | refine AHeap.le.set ?_ (by first | omega | (simp; done) | (simp; omega)) _ | refine AHeap.le.kill ?_ (by first | omega | (simp; done) | (simp; omega)))), _, rfl, rfl, h⟩
  · rw [if_neg hin] at h
    have hr := rnd_bd (a := (b - a) * i) (n := n) (by omega) (655360 * 1000000000) hm
    repeat' ((conv => whnf); first | (apply rounded_c; (· omega); (· omega)) | ((first | (apply yC; (case h => assumption); (case' he => refine ⟨by omega, ?_⟩)) | (apply yD; (case h => assumption); (case' he => refine ⟨by omega, ?_⟩)) | (apply yE; (case h => assumption); (case' he => refine ⟨by omega, by omega, fun hr_ => ?_⟩)) | (apply yF; (case h => assumption); (case' he => refine ⟨by omega, by omega, fun hr_ => ?_⟩)) | (apply yG; (case h => assumption); (case' he => refine ⟨by omega, ?_⟩)) | (apply yH; (case h => assumption); (case' he => refine ⟨by omega, fun hr_ => ?_⟩)) | (apply yI; (case h => assumption); (case' he => refine ⟨by omega, fun hr_ => ?_⟩))); (case hk => first | exact Kp.refl _ | (repeat (first | exact Kp.refl _ | assumption | refine yV ?_ _ | (apply yW; (case g => exact ⟨_, by (repeat (first | assumption | ((first | apply yP | apply yQ); (first | omega | (simp; done) | (simp; omega))) | ((first | refine (yR _ _ ?_).trans ?_ | refine (yS _ _ ?_).trans ?_ | refine (yT _ ?_).trans ?_ | refine (yU (by assumption) _ ?_).trans ?_); (· (first | omega | (simp; done) | (simp; omega)))) | exact rfl)), rfl⟩)) | (apply yX; (case g => exact ⟨_, by (repeat (first | assumption | ((first | apply yP | apply yQ); (first | omega | (simp; done) | (simp; omega))) | ((first | refine (yR _ _ ?_).trans ?_ | refine (yS _ _ ?_).trans ?_ | refine (yT _ ?_).trans ?_ | refine (yU (by assumption) _ ?_).trans ?_); (· (first | omega | (simp; done) | (simp; omega)))) | exact rfl)), rfl⟩)) | refine Kp.fz ?_ _ | exact yY (by assumption) | refine Kp.trans ?_ (yY (by assumption)))))) | (apply drawS_auto mixed tt_ok; (· kernel_rfl)) | apply zZ | apply yA | apply yB | ((first | apply zA | apply zC | apply zE | apply zG); (· assumption)) | ((first | apply zB | apply zD | apply zF | apply zH); (· assumption)) | apply zM | apply zN | apply zO | apply zP | apply zQ | apply zR | apply zS | apply zT | apply zU | (apply zV; (· omega)) | (apply zW; (· omega)) | (apply zX; (· (first | omega | (dsimp only; omega)))) | (apply zY; (try (apply zY; apply zX; (· omega))); apply zX; (· omega); apply zX; (· (first | omega | (dsimp only; omega)))) | ((first | apply yJ | apply yK | apply yL | apply yM | apply yN | apply yO); (· (repeat (first | assumption | ((first | apply yP | apply yQ); (first | omega | (simp; done) | (simp; omega))) | ((first | refine (yR _ _ ?_).trans ?_ | refine (yS _ _ ?_).trans ?_ | refine (yT _ ?_).trans ?_ | refine (yU (by assumption) _ ?_).trans ?_); (· (first | omega | (simp; done) | (simp; omega)))) | exact rfl))); (· (constructor <;> first | trivial | rfl | exact Nat.le_of_ble_eq_true rfl | ((try dsimp only); (try simp only [List.length_map, List.length_cons, List.length_nil, List.length_append, List.length_set, List.length_replicate, List.length_range]); omega)))) | ((first | apply zA | apply zC | apply zE | apply zG); (· omega)) | ((first | apply zB | apply zD | apply zF | apply zH); (· omega)) | ((first | apply zI | apply zK); (· assumption)) | ((first | apply zJ | apply zL); (· assumption)) | fail)
    conv => whnf
    exact ⟨by (repeat (first | exact AHeap.le.refl _ | assumption | refine AHeap.le.push ?_ _ | refine AHeap.le.set ?_ (by first | omega | (simp; done) | (simp; omega)) _ | refine AHeap.le.kill ?_ (by first | omega | (simp; done) | (simp; omega)))), _, rfl, rfl, h⟩

theorem gains_c {y : Value} {n : Nat} {b1 b2 rr : Nat} {a b fr : Int} {H : AHeap} {K : CK} (I : AHeap → Nat → AHeap → Prop) (hn : n ≤ 1000000) (ha : isGain a) (hb : isGain b) (hfr : 0 ≤ fr ∧ fr ≤ 1000000000)
    (hI : ∀ k H1, I H k H1 → H1.get b2 = some (.cells [.pointer (some ⟨rr, 0, none⟩)] true 0) ∧ H1.get rr = some (.cells [iv a, iv b, iv fr, iv (min k fr)] true 0))
    (hb1 : H.get b1 = some (.cells [iv n] true 0)) (h0 : I H 0 H)
    (step : ∀ k H1 K1 x, k < n → I H k H1 → x = min ((k : Int) + 1) fr → (∀ H2, I H (k + 1) H2 → K1 (.returned (.bool true)) H2) → callS P y [iv k, iv (nowF a b fr (min k fr))] (H1.set rr (.cells [iv a, iv b, iv fr, iv x] true 0)) K1)
    (h : ∀ H', I H n H' → K (.returned (.tuple #[])) H') : callS P (.func (.func 86) #[] #[.pointer (some ⟨b1, 0, none⟩), .pointer (some ⟨b2, 0, none⟩)]) [y] H K := by
  refine callS_walk tt_ok Try.func86 rfl (by kernel_rfl) ?_
  conv => whnf
  repeat' ((conv => whnf); first | ((first | (apply yC; (case h => assumption); (case' he => refine ⟨by omega, ?_⟩)) | (apply yD; (case h => assumption); (case' he => refine ⟨by omega, ?_⟩)) | (apply yE; (case h => assumption); (case' he => refine ⟨by omega, by omega, fun hr_ => ?_⟩)) | (apply yF; (case h => assumption); (case' he => refine ⟨by omega, by omega, fun hr_ => ?_⟩)) | (apply yG; (case h => assumption); (case' he => refine ⟨by omega, ?_⟩)) | (apply yH; (case h => assumption); (case' he => refine ⟨by omega, fun hr_ => ?_⟩)) | (apply yI; (case h => assumption); (case' he => refine ⟨by omega, fun hr_ => ?_⟩))); (case hk => first | exact Kp.refl _ | (repeat (first | exact Kp.refl _ | assumption | refine yV ?_ _ | (apply yW; (case g => exact ⟨_, by (repeat (first | assumption | ((first | apply yP | apply yQ); (first | omega | (simp; done) | (simp; omega))) | ((first | refine (yR _ _ ?_).trans ?_ | refine (yS _ _ ?_).trans ?_ | refine (yT _ ?_).trans ?_ | refine (yU (by assumption) _ ?_).trans ?_); (· (first | omega | (simp; done) | (simp; omega)))) | exact rfl)), rfl⟩)) | (apply yX; (case g => exact ⟨_, by (repeat (first | assumption | ((first | apply yP | apply yQ); (first | omega | (simp; done) | (simp; omega))) | ((first | refine (yR _ _ ?_).trans ?_ | refine (yS _ _ ?_).trans ?_ | refine (yT _ ?_).trans ?_ | refine (yU (by assumption) _ ?_).trans ?_); (· (first | omega | (simp; done) | (simp; omega)))) | exact rfl)), rfl⟩)) | refine Kp.fz ?_ _ | exact yY (by assumption) | refine Kp.trans ?_ (yY (by assumption)))))) | (apply drawS_auto mixed tt_ok; (· kernel_rfl)) | apply zZ | apply yA | apply yB | ((first | apply zA | apply zC | apply zE | apply zG); (· assumption)) | ((first | apply zB | apply zD | apply zF | apply zH); (· assumption)) | apply zM | apply zN | apply zO | apply zP | apply zQ | apply zR | apply zS | apply zT | apply zU | (apply zV; (· omega)) | (apply zW; (· omega)) | (apply zX; (· (first | omega | (dsimp only; omega)))) | (apply zY; (try (apply zY; apply zX; (· omega))); apply zX; (· omega); apply zX; (· (first | omega | (dsimp only; omega)))) | ((first | apply yJ | apply yK | apply yL | apply yM | apply yN | apply yO); (· (repeat (first | assumption | ((first | apply yP | apply yQ); (first | omega | (simp; done) | (simp; omega))) | ((first | refine (yR _ _ ?_).trans ?_ | refine (yS _ _ ?_).trans ?_ | refine (yT _ ?_).trans ?_ | refine (yU (by assumption) _ ?_).trans ?_); (· (first | omega | (simp; done) | (simp; omega)))) | exact rfl))); (· (constructor <;> first | trivial | rfl | exact Nat.le_of_ble_eq_true rfl | ((try dsimp only); (try simp only [List.length_map, List.length_cons, List.length_nil, List.length_append, List.length_set, List.length_replicate, List.length_range]); omega)))) | ((first | apply zA | apply zC | apply zE | apply zG); (· omega)) | ((first | apply zB | apply zD | apply zF | apply zH); (· omega)) | ((first | apply zI | apply zK); (· assumption)) | ((first | apply zJ | apply zL); (· assumption)) | fail)
  conv => whnf
  refine loopS_mask tt_ok (fun (k : Nat × AHeap) => [.k, .w, .k, .w, .w, .w, .k, .p (iv k.1), .w, .w, .w, .w, .w, .w, .w, .w, .w, .w, .w, .w, .w, .w, .w, .w, .w, .w, .w, .w, .w, .w, .w, .w, .w]) (fun (k : Nat × AHeap) => k.2) (fun (k : Nat × AHeap) => k.1 ≤ n ∧ I H k.1 k.2) (fun (k : Nat × AHeap) => n - k.1) (⟨0, H⟩) (⟨by omega, h0⟩) ?_ (fun k hk => ?_)
  · conv => whnf
    refine weakH_of (HW.refl _) ?_
    repeat' (first | exact WT.nil | refine WT.same ?_ | refine WT.drop ?_ | refine WT.int (by omega) ?_ | refine WT.eq (by assumption) ?_)
  obtain ⟨k, H1⟩ := k
  obtain ⟨hk, hI1⟩ := hk
  dsimp only at hk hI1 ⊢
  obtain ⟨g1, g2⟩ := hI k H1 hI1
  by_cases hlt : k < n
  · skip
    repeat' ((conv => whnf); first | refine now_c ha hb hfr (by omega) ?_ | ((first | (apply yC; (case h => assumption); (case' he => refine ⟨by omega, ?_⟩)) | (apply yD; (case h => assumption); (case' he => refine ⟨by omega, ?_⟩)) | (apply yE; (case h => assumption); (case' he => refine ⟨by omega, by omega, fun hr_ => ?_⟩)) | (apply yF; (case h => assumption); (case' he => refine ⟨by omega, by omega, fun hr_ => ?_⟩)) | (apply yG; (case h => assumption); (case' he => refine ⟨by omega, ?_⟩)) | (apply yH; (case h => assumption); (case' he => refine ⟨by omega, fun hr_ => ?_⟩)) | (apply yI; (case h => assumption); (case' he => refine ⟨by omega, fun hr_ => ?_⟩))); (case hk => first | exact Kp.refl _ | (repeat (first | exact Kp.refl _ | assumption | refine yV ?_ _ | (apply yW; (case g => exact ⟨_, by (repeat (first | assumption | ((first | apply yP | apply yQ); (first | omega | (simp; done) | (simp; omega))) | ((first | refine (yR _ _ ?_).trans ?_ | refine (yS _ _ ?_).trans ?_ | refine (yT _ ?_).trans ?_ | refine (yU (by assumption) _ ?_).trans ?_); (· (first | omega | (simp; done) | (simp; omega)))) | exact rfl)), rfl⟩)) | (apply yX; (case g => exact ⟨_, by (repeat (first | assumption | ((first | apply yP | apply yQ); (first | omega | (simp; done) | (simp; omega))) | ((first | refine (yR _ _ ?_).trans ?_ | refine (yS _ _ ?_).trans ?_ | refine (yT _ ?_).trans ?_ | refine (yU (by assumption) _ ?_).trans ?_); (· (first | omega | (simp; done) | (simp; omega)))) | exact rfl)), rfl⟩)) | refine Kp.fz ?_ _ | exact yY (by assumption) | refine Kp.trans ?_ (yY (by assumption)))))) | (apply drawS_auto mixed tt_ok; (· kernel_rfl)) | apply zZ | apply yA | apply yB | ((first | apply zA | apply zC | apply zE | apply zG); (· assumption)) | ((first | apply zB | apply zD | apply zF | apply zH); (· assumption)) | apply zM | apply zN | apply zO | apply zP | apply zQ | apply zR | apply zS | apply zT | apply zU | (apply zV; (· omega)) | (apply zW; (· omega)) | (apply zX; (· (first | omega | (dsimp only; omega)))) | (apply zY; (try (apply zY; apply zX; (· omega))); apply zX; (· omega); apply zX; (· (first | omega | (dsimp only; omega)))) | ((first | apply yJ | apply yK | apply yL | apply yM | apply yN | apply yO); (· (repeat (first | assumption | ((first | apply yP | apply yQ); (first | omega | (simp; done) | (simp; omega))) | ((first | refine (yR _ _ ?_).trans ?_ | refine (yS _ _ ?_).trans ?_ | refine (yT _ ?_).trans ?_ | refine (yU (by assumption) _ ?_).trans ?_); (· (first | omega | (simp; done) | (simp; omega)))) | exact rfl))); (· (constructor <;> first | trivial | rfl | exact Nat.le_of_ble_eq_true rfl | ((try dsimp only); (try simp only [List.length_map, List.length_cons, List.length_nil, List.length_append, List.length_set, List.length_replicate, List.length_range]); omega)))) | ((first | apply zA | apply zC | apply zE | apply zG); (· omega)) | ((first | apply zB | apply zD | apply zF | apply zH); (· omega)) | ((first | apply zI | apply zK); (· assumption)) | ((first | apply zJ | apply zL); (· assumption)) | fail)
    conv => whnf
    refine step k H1 _ _ hlt hI1 (by omega) (fun H2 hI2 => ?_)
    repeat' ((conv => whnf); first | ((first | (apply yC; (case h => assumption); (case' he => refine ⟨by omega, ?_⟩)) | (apply yD; (case h => assumption); (case' he => refine ⟨by omega, ?_⟩)) | (apply yE; (case h => assumption); (case' he => refine ⟨by omega, by omega, fun hr_ => ?_⟩)) | (apply yF; (case h => assumption); (case' he => refine ⟨by omega, by omega, fun hr_ => ?_⟩)) | (apply yG; (case h => assumption); (case' he => refine ⟨by omega, ?_⟩)) | (apply yH; (case h => assumption); (case' he => refine ⟨by omega, fun hr_ => ?_⟩)) | (apply yI; (case h => assumption); (case' he => refine ⟨by omega, fun hr_ => ?_⟩))); (case hk => first | exact Kp.refl _ | (repeat (first | exact Kp.refl _ | assumption | refine yV ?_ _ | (apply yW; (case g => exact ⟨_, by (repeat (first | assumption | ((first | apply yP | apply yQ); (first | omega | (simp; done) | (simp; omega))) | ((first | refine (yR _ _ ?_).trans ?_ | refine (yS _ _ ?_).trans ?_ | refine (yT _ ?_).trans ?_ | refine (yU (by assumption) _ ?_).trans ?_); (· (first | omega | (simp; done) | (simp; omega)))) | exact rfl)), rfl⟩)) | (apply yX; (case g => exact ⟨_, by (repeat (first | assumption | ((first | apply yP | apply yQ); (first | omega | (simp; done) | (simp; omega))) | ((first | refine (yR _ _ ?_).trans ?_ | refine (yS _ _ ?_).trans ?_ | refine (yT _ ?_).trans ?_ | refine (yU (by assumption) _ ?_).trans ?_); (· (first | omega | (simp; done) | (simp; omega)))) | exact rfl)), rfl⟩)) | refine Kp.fz ?_ _ | exact yY (by assumption) | refine Kp.trans ?_ (yY (by assumption)))))) | (apply drawS_auto mixed tt_ok; (· kernel_rfl)) | apply zZ | apply yA | apply yB | ((first | apply zA | apply zC | apply zE | apply zG); (· assumption)) | ((first | apply zB | apply zD | apply zF | apply zH); (· assumption)) | apply zM | apply zN | apply zO | apply zP | apply zQ | apply zR | apply zS | apply zT | apply zU | (apply zV; (· omega)) | (apply zW; (· omega)) | (apply zX; (· (first | omega | (dsimp only; omega)))) | (apply zY; (try (apply zY; apply zX; (· omega))); apply zX; (· omega); apply zX; (· (first | omega | (dsimp only; omega)))) | ((first | apply yJ | apply yK | apply yL | apply yM | apply yN | apply yO); (· (repeat (first | assumption | ((first | apply yP | apply yQ); (first | omega | (simp; done) | (simp; omega))) | ((first | refine (yR _ _ ?_).trans ?_ | refine (yS _ _ ?_).trans ?_ | refine (yT _ ?_).trans ?_ | refine (yU (by assumption) _ ?_).trans ?_); (· (first | omega | (simp; done) | (simp; omega)))) | exact rfl))); (· (constructor <;> first | trivial | rfl | exact Nat.le_of_ble_eq_true rfl | ((try dsimp only); (try simp only [List.length_map, List.length_cons, List.length_nil, List.length_append, List.length_set, List.length_replicate, List.length_range]); omega)))) | ((first | apply zA | apply zC | apply zE | apply zG); (· omega)) | ((first | apply zB | apply zD | apply zF | apply zH); (· omega)) | ((first | apply zI | apply zK); (· assumption)) | ((first | apply zJ | apply zL); (· assumption)) | fail)
    conv => whnf
    refine ⟨(k + 1, H2), ⟨by omega, hI2⟩, by omega, ?_⟩
    conv => whnf
    refine weakH_of (HW.refl _) ?_
    repeat' (first | exact WT.nil | refine WT.same ?_ | refine WT.drop ?_ | refine WT.int (by omega) ?_ | refine WT.eq (by assumption) ?_)
  · have hkn : k = n := by omega
    subst hkn
    repeat' ((conv => whnf); first | ((first | (apply yC; (case h => assumption); (case' he => refine ⟨by omega, ?_⟩)) | (apply yD; (case h => assumption); (case' he => refine ⟨by omega, ?_⟩)) | (apply yE; (case h => assumption); (case' he => refine ⟨by omega, by omega, fun hr_ => ?_⟩)) | (apply yF; (case h => assumption); (case' he => refine ⟨by omega, by omega, fun hr_ => ?_⟩)) | (apply yG; (case h => assumption); (case' he => refine ⟨by omega, ?_⟩)) | (apply yH; (case h => assumption); (case' he => refine ⟨by omega, fun hr_ => ?_⟩)) | (apply yI; (case h => assumption); (case' he => refine ⟨by omega, fun hr_ => ?_⟩))); (case hk => first | exact Kp.refl _ | (repeat (first | exact Kp.refl _ | assumption | refine yV ?_ _ | (apply yW; (case g => exact ⟨_, by (repeat (first | assumption | ((first | apply yP | apply yQ); (first | omega | (simp; done) | (simp; omega))) | ((first | refine (yR _ _ ?_).trans ?_ | refine (yS _ _ ?_).trans ?_ | refine (yT _ ?_).trans ?_ | refine (yU (by assumption) _ ?_).trans ?_); (· (first | omega | (simp; done) | (simp; omega)))) | exact rfl)), rfl⟩)) | (apply yX; (case g => exact ⟨_, by (repeat (first | assumption | ((first | apply yP | apply yQ); (first | omega | (simp; done) | (simp; omega))) | ((first | refine (yR _ _ ?_).trans ?_ | refine (yS _ _ ?_).trans ?_ | refine (yT _ ?_).trans ?_ | refine (yU (by assumption) _ ?_).trans ?_); (· (first | omega | (simp; done) | (simp; omega)))) | exact rfl)), rfl⟩)) | refine Kp.fz ?_ _ | exact yY (by assumption) | refine Kp.trans ?_ (yY (by assumption)))))) | (apply drawS_auto mixed tt_ok; (· kernel_rfl)) | apply zZ | apply yA | apply yB | ((first | apply zA | apply zC | apply zE | apply zG); (· assumption)) | ((first | apply zB | apply zD | apply zF | apply zH); (· assumption)) | apply zM | apply zN | apply zO | apply zP | apply zQ | apply zR | apply zS | apply zT | apply zU | (apply zV; (· omega)) | (apply zW; (· omega)) | (apply zX; (· (first | omega | (dsimp only; omega)))) | (apply zY; (try (apply zY; apply zX; (· omega))); apply zX; (· omega); apply zX; (· (first | omega | (dsimp only; omega)))) | ((first | apply yJ | apply yK | apply yL | apply yM | apply yN | apply yO); (· (repeat (first | assumption | ((first | apply yP | apply yQ); (first | omega | (simp; done) | (simp; omega))) | ((first | refine (yR _ _ ?_).trans ?_ | refine (yS _ _ ?_).trans ?_ | refine (yT _ ?_).trans ?_ | refine (yU (by assumption) _ ?_).trans ?_); (· (first | omega | (simp; done) | (simp; omega)))) | exact rfl))); (· (constructor <;> first | trivial | rfl | exact Nat.le_of_ble_eq_true rfl | ((try dsimp only); (try simp only [List.length_map, List.length_cons, List.length_nil, List.length_append, List.length_set, List.length_replicate, List.length_range]); omega)))) | ((first | apply zA | apply zC | apply zE | apply zG); (· omega)) | ((first | apply zB | apply zD | apply zF | apply zH); (· omega)) | ((first | apply zI | apply zK); (· assumption)) | ((first | apply zJ | apply zL); (· assumption)) | fail)
    conv => whnf
    exact h _ hI1

def applyF (x g : Int) : Int := max (0 - 8388607) (min 8388607 (rnd (x * g) 65536))
theorem apply_c {x g : Int} (hx : -8388607 ≤ x ∧ x ≤ 8388607) (hg : isGain g) {H : AHeap} {K : CK} (h : K (.returned (iv (applyF x g))) H) : callS P (fnV 69) [iv x, iv g] H K := by
  have hm := mul_bd (a := x) (i := g) (A := 8388607) (B := 655360) hx hg
  refine callS_walk tt_ok Try.func69 rfl (by kernel_rfl) ?_
  conv => whnf
  repeat' ((conv => whnf); first | (apply rounded_c; (· omega); (· omega)) | (apply bounded_c; (· omega)) | apply yA | apply yB | ((first | apply zA | apply zC | apply zE | apply zG); (· assumption)) | ((first | apply zB | apply zD | apply zF | apply zH); (· assumption)) | apply zM | apply zN | apply zO | apply zP | apply zQ | apply zR | apply zS | apply zT | apply zU | (apply zV; (· omega)) | (apply zW; (· omega)) | (apply zX; (· (first | omega | (dsimp only; omega)))) | (apply zY; (try (apply zY; apply zX; (· omega))); apply zX; (· omega); apply zX; (· (first | omega | (dsimp only; omega)))) | ((first | apply zA | apply zC | apply zE | apply zG); (· omega)) | ((first | apply zB | apply zD | apply zF | apply zH); (· omega)) | ((first | apply zI | apply zK); (· assumption)) | ((first | apply zJ | apply zL); (· assumption)) | fail)
  conv => whnf
  exact h
theorem rnd2_eq {a n : Int} (ha : 0 ≤ a) (hn : 0 < n) : rnd2 a n = rnd a n := by
  unfold rnd2 rnd
  have h2 : n.tdiv 2 = n / 2 := Int.tdiv_eq_ediv_of_nonneg (by omega)
  rw [if_neg (show ¬ a < 0 by omega), Int.tdiv_eq_ediv_of_nonneg ha, Int.tmod_eq_emod_of_nonneg ha, h2, Int.tdiv_eq_ediv_of_nonneg (show 0 ≤ a + n / 2 by omega)]
  have h3 := Int.mul_ediv_add_emod a n
  have h4 := Int.emod_nonneg a (show n ≠ 0 by omega)
  have h5 := Int.emod_lt_of_pos a hn
  have e : a + n / 2 = (a % n + n / 2) + n * (a / n) := by omega
  rw [e, Int.add_mul_ediv_left _ _ (show n ≠ 0 by omega)]
  split
  · have h6 : (a % n + n / 2) / n = 1 := by
      apply Int.le_antisymm
      · apply Int.lt_add_one_iff.1
        exact Int.ediv_lt_of_lt_mul hn (by omega)
      · exact (Int.le_ediv_iff_mul_le hn).2 (by omega)
    omega
  · have h6 : (a % n + n / 2) / n = 0 := Int.ediv_eq_zero_of_lt (by omega) (by omega)
    omega
theorem rnd_neg {a n : Int} (ha : a < 0) : rnd a n = 0 - rnd (0 - a) n := by
  unfold rnd
  rw [if_pos ha, if_neg (show ¬ (0 - a < 0) by omega)]
theorem refRounded_c {a n : Int} (ha : -4611686018427387904 ≤ a ∧ a ≤ 4611686018427387904) (hn : 0 < n ∧ n ≤ 4611686018427387904) {H : AHeap} {K : CK} (h : K (.returned (iv (rnd a n))) H) : callS P (fnV 61) [iv a, iv n] H K := by
  by_cases h0 : a < 0
  · exact rounded2_neg ⟨ha.1, h0⟩ hn (by rw [rnd2_eq (by omega) hn.1, ← rnd_neg h0]; exact h)
  · exact rounded2_pos ⟨by omega, ha.2⟩ hn (by rw [rnd2_eq (by omega) hn.1]; exact h)
theorem refBounded_c {n lo hi : Int} {H : AHeap} {K : CK} (h : K (.returned (iv (max lo (min hi n)))) H) : callS P (fnV 89) [iv n, iv lo, iv hi] H K := by
  refine callS_walk tt_ok Try.func89 rfl (by kernel_rfl) ?_
  conv => whnf
  repeat' ((conv => whnf); first | apply yA | apply yB | ((first | apply zA | apply zC | apply zE | apply zG); (· assumption)) | ((first | apply zB | apply zD | apply zF | apply zH); (· assumption)) | apply zM | apply zN | apply zO | apply zP | apply zQ | apply zR | apply zS | apply zT | apply zU | (apply zV; (· omega)) | (apply zW; (· omega)) | (apply zX; (· (first | omega | (dsimp only; omega)))) | (apply zY; (try (apply zY; apply zX; (· omega))); apply zX; (· omega); apply zX; (· (first | omega | (dsimp only; omega)))) | ((first | apply zA | apply zC | apply zE | apply zG); (· omega)) | ((first | apply zB | apply zD | apply zF | apply zH); (· omega)) | ((first | apply zI | apply zK); (· assumption)) | ((first | apply zJ | apply zL); (· assumption)) | fail)
  conv => whnf
  exact h
theorem clip_c {n : Int} {H : AHeap} {K : CK} (h : K (.returned (iv (max (0 - 8388607) (min 8388607 n)))) H) : callS P (fnV 65) [iv n] H K := by
  refine callS_walk tt_ok Try.func65 rfl (by kernel_rfl) ?_
  conv => whnf
  repeat' ((conv => whnf); first | (apply refBounded_c) | apply yA | apply yB | ((first | apply zA | apply zC | apply zE | apply zG); (· assumption)) | ((first | apply zB | apply zD | apply zF | apply zH); (· assumption)) | apply zM | apply zN | apply zO | apply zP | apply zQ | apply zR | apply zS | apply zT | apply zU | (apply zV; (· omega)) | (apply zW; (· omega)) | (apply zX; (· (first | omega | (dsimp only; omega)))) | (apply zY; (try (apply zY; apply zX; (· omega))); apply zX; (· omega); apply zX; (· (first | omega | (dsimp only; omega)))) | ((first | apply zA | apply zC | apply zE | apply zG); (· omega)) | ((first | apply zB | apply zD | apply zF | apply zH); (· omega)) | ((first | apply zI | apply zK); (· assumption)) | ((first | apply zJ | apply zL); (· assumption)) | fail)
  conv => whnf
  exact h
theorem times_c {x g : Int} (hx : -8388607 ≤ x ∧ x ≤ 8388607) (hg : isGain g) {H : AHeap} {K : CK} (h : K (.returned (iv (applyF x g))) H) : callS P (fnV 52) [iv x, iv g] H K := by
  have hm := mul_bd (a := x) (i := g) (A := 8388607) (B := 655360) hx hg
  refine callS_walk tt_ok Try.func52 rfl (by kernel_rfl) ?_
  conv => whnf
  repeat' ((conv => whnf); first | (apply refRounded_c; (· omega); (· omega)) | (apply clip_c) | apply yA | apply yB | ((first | apply zA | apply zC | apply zE | apply zG); (· assumption)) | ((first | apply zB | apply zD | apply zF | apply zH); (· assumption)) | apply zM | apply zN | apply zO | apply zP | apply zQ | apply zR | apply zS | apply zT | apply zU | (apply zV; (· omega)) | (apply zW; (· omega)) | (apply zX; (· (first | omega | (dsimp only; omega)))) | (apply zY; (try (apply zY; apply zX; (· omega))); apply zX; (· omega); apply zX; (· (first | omega | (dsimp only; omega)))) | ((first | apply zA | apply zC | apply zE | apply zG); (· omega)) | ((first | apply zB | apply zD | apply zF | apply zH); (· omega)) | ((first | apply zI | apply zK); (· assumption)) | ((first | apply zJ | apply zL); (· assumption)) | fail)
  conv => whnf
  exact h
theorem grown_c {a b n i : Int} (ha : isGain a) (hb : isGain b) (hn : 0 ≤ n ∧ n ≤ 1000000000) (hi : 0 ≤ i ∧ i ≤ 1000000000) {H : AHeap} {K : CK} (h : K (.returned (iv (nowF a b n i))) H) : callS P (fnV 53) [iv a, iv b, iv n, iv i] H K := by
  obtain ⟨ha1, ha2⟩ := ha
  obtain ⟨hb1, hb2⟩ := hb
  have hm := mul_bd (a := b - a) (i := i) (A := 655360) (B := 1000000000) (by omega) (by omega)
  refine callS_walk tt_ok Try.func53 rfl (by kernel_rfl) ?_
  conv => whnf
  unfold nowF at h
  by_cases hin : n ≤ i
  · rw [if_pos hin] at h
    repeat' ((conv => whnf); first | apply yA | apply yB | ((first | apply zA | apply zC | apply zE | apply zG); (· assumption)) | ((first | apply zB | apply zD | apply zF | apply zH); (· assumption)) | apply zM | apply zN | apply zO | apply zP | apply zQ | apply zR | apply zS | apply zT | apply zU | (apply zV; (· omega)) | (apply zW; (· omega)) | (apply zX; (· (first | omega | (dsimp only; omega)))) | (apply zY; (try (apply zY; apply zX; (· omega))); apply zX; (· omega); apply zX; (· (first | omega | (dsimp only; omega)))) | ((first | apply zA | apply zC | apply zE | apply zG); (· omega)) | ((first | apply zB | apply zD | apply zF | apply zH); (· omega)) | ((first | apply zI | apply zK); (· assumption)) | ((first | apply zJ | apply zL); (· assumption)) | fail)
    conv => whnf
    exact h
  · rw [if_neg hin] at h
    have hr := rnd_bd (a := (b - a) * i) (n := n) (by omega) (655360 * 1000000000) hm
    repeat' ((conv => whnf); first | (apply refRounded_c; (· omega); (· omega)) | apply yA | apply yB | ((first | apply zA | apply zC | apply zE | apply zG); (· assumption)) | ((first | apply zB | apply zD | apply zF | apply zH); (· assumption)) | apply zM | apply zN | apply zO | apply zP | apply zQ | apply zR | apply zS | apply zT | apply zU | (apply zV; (· omega)) | (apply zW; (· omega)) | (apply zX; (· (first | omega | (dsimp only; omega)))) | (apply zY; (try (apply zY; apply zX; (· omega))); apply zX; (· omega); apply zX; (· (first | omega | (dsimp only; omega)))) | ((first | apply zA | apply zC | apply zE | apply zG); (· omega)) | ((first | apply zB | apply zD | apply zF | apply zH); (· omega)) | ((first | apply zI | apply zK); (· assumption)) | ((first | apply zJ | apply zL); (· assumption)) | fail)
    conv => whnf
    exact h

/-! the laws of a ramp -/
theorem rnd_nonneg {a n : Int} (ha : 0 ≤ a) (hn : 0 < n) : rnd a n = (a + n / 2) / n := by
  unfold rnd
  rw [if_neg (by omega), Int.tdiv_eq_ediv_of_nonneg (show (0:Int) ≤ n by omega), Int.tdiv_eq_ediv_of_nonneg (show 0 ≤ a + n / 2 by omega)]
theorem rnd_ramp {d n i : Int} (hd : 0 ≤ d) (hi : 0 ≤ i ∧ i < n) : 0 ≤ rnd (d * i) n ∧ rnd (d * i) n ≤ d := by
  have h0 : 0 ≤ d * i := Int.mul_nonneg hd hi.1
  have hn : 0 < n := by omega
  rw [rnd_nonneg h0 hn]
  refine ⟨Int.ediv_nonneg (by omega) (by omega), ?_⟩
  have h1 : d * i ≤ d * (n - 1) := Int.mul_le_mul_of_nonneg_left (by omega) hd
  have h2 : d * (n - 1) = d * n - d := by rw [Int.mul_sub, Int.mul_one]
  apply Int.lt_add_one_iff.1
  refine Int.ediv_lt_of_lt_mul hn ?_
  rw [Int.add_mul, Int.one_mul]
  omega
theorem rnd_mono {x y n : Int} (hx : 0 ≤ x) (hy : x ≤ y) (hn : 0 < n) : rnd x n ≤ rnd y n := by
  rw [rnd_nonneg hx hn, rnd_nonneg (by omega) hn]
  exact Int.ediv_le_ediv hn (by omega)
theorem nowF_up {a b n i : Int} (hab : a ≤ b) (hi : 0 ≤ i) : a ≤ nowF a b n i ∧ nowF a b n i ≤ b := by
  unfold nowF
  split
  · omega
  · have := rnd_ramp (d := b - a) (n := n) (i := i) (by omega) (by omega); omega
theorem rnd_negmul {d n i : Int} (hd : d ≤ 0) (hi : 0 ≤ i) (hn : 0 < n) : rnd (d * i) n = 0 - rnd ((0 - d) * i) n := by
  have e : (0 - d) * i = 0 - d * i := by rw [Int.sub_mul, Int.zero_mul]
  have h0 : 0 ≤ (0 - d) * i := Int.mul_nonneg (by omega) hi
  rw [e] at h0 ⊢
  by_cases hz : d * i < 0
  · exact rnd_neg hz
  · have hz : d * i = 0 := by omega
    rw [hz]
    have : rnd 0 n = 0 := by
      rw [rnd_nonneg (by omega) hn]
      exact Int.ediv_eq_zero_of_lt (by omega) (by omega)
    simp [this]
theorem nowF_down {a b n i : Int} (hab : b ≤ a) (hi : 0 ≤ i) : b ≤ nowF a b n i ∧ nowF a b n i ≤ a := by
  unfold nowF
  split
  · omega
  · have := rnd_ramp (d := 0 - (b - a)) (n := n) (i := i) (by omega) (by omega)
    rw [rnd_negmul (by omega) hi (by omega)]
    omega
theorem nowF_mono_up {a b n i : Int} (hab : a ≤ b) (hi : 0 ≤ i) : nowF a b n i ≤ nowF a b n (i + 1) := by
  by_cases h : n ≤ i + 1
  · have e : nowF a b n (i + 1) = b := by unfold nowF; rw [if_pos h]
    rw [e]
    exact (nowF_up hab hi).2
  · unfold nowF
    rw [if_neg (by omega), if_neg h]
    have h1 : (b - a) * i ≤ (b - a) * (i + 1) := Int.mul_le_mul_of_nonneg_left (by omega) (by omega)
    have h0 : 0 ≤ (b - a) * i := Int.mul_nonneg (by omega) hi
    have := rnd_mono (n := n) h0 h1 (by omega)
    omega
theorem nowF_mono_down {a b n i : Int} (hab : b ≤ a) (hi : 0 ≤ i) : nowF a b n (i + 1) ≤ nowF a b n i := by
  by_cases h : n ≤ i + 1
  · have e : nowF a b n (i + 1) = b := by unfold nowF; rw [if_pos h]
    rw [e]
    exact (nowF_down hab hi).1
  · unfold nowF
    rw [if_neg h, if_neg (show ¬ n ≤ i by omega)]
    rw [rnd_negmul (by omega) hi (by omega), rnd_negmul (by omega) (by omega) (by omega)]
    have h1 : (0 - (b - a)) * i ≤ (0 - (b - a)) * (i + 1) := Int.mul_le_mul_of_nonneg_left (by omega) (by omega)
    have h0 : 0 ≤ (0 - (b - a)) * i := Int.mul_nonneg (by omega) hi
    have := rnd_mono (n := n) h0 h1 (by omega)
    omega
theorem nowF_zero {a b n : Int} (hn : 0 < n) : nowF a b n 0 = a := by
  unfold nowF
  rw [if_neg (by omega), Int.mul_zero, rnd_nonneg (by omega) hn]
  rw [Int.ediv_eq_zero_of_lt (by omega) (by omega)]
  omega
theorem nowF_min {a b n i : Int} : nowF a b n (min i n) = nowF a b n i := by
  unfold nowF
  by_cases h : n ≤ i
  · rw [if_pos h, if_pos (by omega)]
  · rw [if_neg h, if_neg (by omega), show min i n = i by omega]
theorem nowF_gain {a b n i : Int} (ha : isGain a) (hb : isGain b) (hi : 0 ≤ i) : isGain (nowF a b n i) := by
  unfold isGain at *
  rcases Int.le_total a b with h | h
  · have := nowF_up (n := n) h hi; omega
  · have := nowF_down (n := n) h hi; omega

def rampRow (a b n : Int) (r : List Int) : List Int := (List.range r.length).map fun (i : Nat) => applyF (r.getD i 0) (nowF a b n i)
def rampE (a b n : Int) (m : List (List Int)) : Int := if blockB m = true then if isGain a ∧ isGain b ∧ 0 ≤ n ∧ n ≤ 1000000000 then 0 else 7 else 1
def rampM (a b n : Int) (m : List (List Int)) : List (List Int) := if blockB m = true then if isGain a ∧ isGain b ∧ 0 ≤ n ∧ n ≤ 1000000000 then m.map (rampRow a b n) else [] else []
def stepsL (a b : Int) (n : Nat) : List Int := (List.range n).map fun (i : Nat) => nowF a b n i
def stepsE (a b n : Int) : Int := if isGain a ∧ isGain b ∧ 0 ≤ n ∧ n ≤ 1000000000 then if n ≤ 4096 then 0 else 4 else 7
def stepsM (a b n : Int) : List Int := if isGain a ∧ isGain b ∧ 0 ≤ n ∧ n ≤ 1000000000 then if n ≤ 4096 then stepsL a b n.toNat else [] else []
theorem range_snoc {α : Type} (f : Nat → α) (k : Nat) : (List.range (k + 1)).map f = (List.range k).map f ++ [f k] := by
  rw [List.range_succ, List.map_append]; rfl

theorem refSteps_c {a b n : Int} (hn : inR n) {H : AHeap} {K : CK} (h : ∀ H' p, H.le H' → Row H' p (stepsM a b n) → K (.returned (.tuple #[.slice p (stepsM a b n).length (stepsM a b n).length, iv (stepsE a b n)])) H') : callS P (fnV 14) [iv a, iv b, iv n] H K := by
  by_cases hg : isGain a ∧ isGain b ∧ 0 ≤ n ∧ n ≤ 1000000000
  · obtain ⟨ha, hb, hn0⟩ := id hg
    have hba := bad_t.2 ha
    have hbb := bad_t.2 hb
    by_cases h4 : n ≤ 4096
    · refine callS_post ?_
      refine callS_walk tt_ok Try.func14 rfl (by kernel_rfl) ?_
      conv => whnf
      unfold stepsM stepsE at h
      simp only [if_pos hg, if_pos h4] at h
      repeat' ((conv => whnf); first | (apply gain_v; (· assumption)) | (apply drawS_auto mixed tt_ok; (· kernel_rfl)) | apply zZ | apply yA | apply yB | ((first | apply zA | apply zC | apply zE | apply zG); (· assumption)) | ((first | apply zB | apply zD | apply zF | apply zH); (· assumption)) | apply zM | apply zN | apply zO | apply zP | apply zQ | apply zR | apply zS | apply zT | apply zU | (apply zV; (· omega)) | (apply zW; (· omega)) | (apply zX; (· (first | omega | (dsimp only; omega)))) | (apply zY; (try (apply zY; apply zX; (· omega))); apply zX; (· omega); apply zX; (· (first | omega | (dsimp only; omega)))) | ((first | apply yJ | apply yK | apply yL | apply yM | apply yN | apply yO); (· (repeat (first | assumption | ((first | apply yP | apply yQ); (first | omega | (simp; done) | (simp; omega))) | ((first | refine (yR _ _ ?_).trans ?_ | refine (yS _ _ ?_).trans ?_ | refine (yT _ ?_).trans ?_ | refine (yU (by assumption) _ ?_).trans ?_); (· (first | omega | (simp; done) | (simp; omega)))) | exact rfl))); (· (constructor <;> first | trivial | rfl | exact Nat.le_of_ble_eq_true rfl | ((try dsimp only); (try simp only [List.length_map, List.length_cons, List.length_nil, List.length_append, List.length_set, List.length_replicate, List.length_range]); omega)))) | ((first | apply zA | apply zC | apply zE | apply zG); (· omega)) | ((first | apply zB | apply zD | apply zF | apply zH); (· omega)) | ((first | apply zI | apply zK); (· assumption)) | ((first | apply zJ | apply zL); (· assumption)) | fail)
      conv => whnf
      refine loopS_mask tt_ok (fun (k : Nat × AHeap × Value) => [.k, .k, .k, .w, .w, .w, .w, .w, .p (k.2.2), .p (iv k.1), .w, .w, .w, .w, .w, .w, .w, .w, .w, .w, .w, .w, .w, .w, .w, .w, .w, .w, .w, .w, .w, .w, .w, .w, .w, .w, .w, .w, .w, .w, .w, .w, .w, .w]) (fun (k : Nat × AHeap × Value) => k.2.1) (fun (k : Nat × AHeap × Value) => k.1 ≤ n.toNat ∧ H.le k.2.1 ∧ ORowV k.2.1 H.size k.2.2 ((List.range k.1).map fun (i : Nat) => nowF a b n i)) (fun (k : Nat × AHeap × Value) => n.toNat - k.1) (⟨0, H, .slice none 0 0⟩) (⟨by omega, AHeap.le.refl H, .inl ⟨rfl, rfl⟩⟩) ?_ (fun k hk => ?_)
      · conv => whnf
        refine weakH_of (HW.refl _) ?_
        repeat' (first | exact WT.nil | refine WT.same ?_ | refine WT.drop ?_ | refine WT.int (by omega) ?_ | refine WT.eq (by assumption) ?_)
      obtain ⟨k, H1, v⟩ := k
      obtain ⟨hk, hle, hv⟩ := hk
      dsimp only at hk hle hv ⊢
      have hsz := hle.size
      by_cases hlt : k < n.toNat
      · rcases hv with ⟨rfl, hk0⟩ | ⟨o, rfl, ho, ho1, ho2⟩
        · have hk0 : k = 0 := by simpa using hk0
          subst hk0
          repeat' ((conv => whnf); first | refine grown_c ha hb hn0 (by omega) ?_ | (apply drawS_auto mixed tt_ok; (· kernel_rfl)) | apply zZ | apply yA | apply yB | ((first | apply zA | apply zC | apply zE | apply zG); (· assumption)) | ((first | apply zB | apply zD | apply zF | apply zH); (· assumption)) | apply zM | apply zN | apply zO | apply zP | apply zQ | apply zR | apply zS | apply zT | apply zU | (apply zV; (· omega)) | (apply zW; (· omega)) | (apply zX; (· (first | omega | (dsimp only; omega)))) | (apply zY; (try (apply zY; apply zX; (· omega))); apply zX; (· omega); apply zX; (· (first | omega | (dsimp only; omega)))) | ((first | apply yJ | apply yK | apply yL | apply yM | apply yN | apply yO); (· (repeat (first | assumption | ((first | apply yP | apply yQ); (first | omega | (simp; done) | (simp; omega))) | ((first | refine (yR _ _ ?_).trans ?_ | refine (yS _ _ ?_).trans ?_ | refine (yT _ ?_).trans ?_ | refine (yU (by assumption) _ ?_).trans ?_); (· (first | omega | (simp; done) | (simp; omega)))) | exact rfl))); (· (constructor <;> first | trivial | rfl | exact Nat.le_of_ble_eq_true rfl | ((try dsimp only); (try simp only [List.length_map, List.length_cons, List.length_nil, List.length_append, List.length_set, List.length_replicate, List.length_range]); omega)))) | ((first | apply zA | apply zC | apply zE | apply zG); (· omega)) | ((first | apply zB | apply zD | apply zF | apply zH); (· omega)) | ((first | apply zI | apply zK); (· assumption)) | ((first | apply zJ | apply zL); (· assumption)) | fail)
          conv => whnf
          apply Exists.intro (1, _, _)
          refine ⟨?inv, ?mu, ?wk⟩
          case wk =>
            conv => whnf
            refine weakH_of (HW.refl _) ?_
            repeat' (first | exact WT.nil | refine WT.same ?_ | refine WT.drop ?_ | refine WT.int (by omega) ?_ | refine WT.eq (by assumption) ?_)
          case mu => first | omega | (dsimp only; omega)
          case inv => exact ⟨by omega, by (repeat (first | exact AHeap.le.refl _ | assumption | refine AHeap.le.push ?_ _ | refine AHeap.le.set ?_ (by first | omega | (simp; done) | (simp; omega)) _ | refine AHeap.le.kill ?_ (by first | omega | (simp; done) | (simp; omega)))), .inr ⟨_, rfl, by (repeat (first | assumption | ((first | apply yP | apply yQ); (first | omega | (simp; done) | (simp; omega))) | ((first | refine (yR _ _ ?_).trans ?_ | refine (yS _ _ ?_).trans ?_ | refine (yT _ ?_).trans ?_ | refine (yU (by assumption) _ ?_).trans ?_); (· (first | omega | (simp; done) | (simp; omega)))) | exact rfl)), by simp; omega, by simp⟩⟩
        · rw [List.length_map, List.length_range]
          repeat' ((conv => whnf); first | refine grown_c ha hb hn0 (by omega) ?_ | (apply drawS_auto mixed tt_ok; (· kernel_rfl)) | apply zZ | apply yA | apply yB | ((first | apply zA | apply zC | apply zE | apply zG); (· assumption)) | ((first | apply zB | apply zD | apply zF | apply zH); (· assumption)) | apply zM | apply zN | apply zO | apply zP | apply zQ | apply zR | apply zS | apply zT | apply zU | (apply zV; (· omega)) | (apply zW; (· omega)) | (apply zX; (· (first | omega | (dsimp only; omega)))) | (apply zY; (try (apply zY; apply zX; (· omega))); apply zX; (· omega); apply zX; (· (first | omega | (dsimp only; omega)))) | ((first | apply yJ | apply yK | apply yL | apply yM | apply yN | apply yO); (· (repeat (first | assumption | ((first | apply yP | apply yQ); (first | omega | (simp; done) | (simp; omega))) | ((first | refine (yR _ _ ?_).trans ?_ | refine (yS _ _ ?_).trans ?_ | refine (yT _ ?_).trans ?_ | refine (yU (by assumption) _ ?_).trans ?_); (· (first | omega | (simp; done) | (simp; omega)))) | exact rfl))); (· (constructor <;> first | trivial | rfl | exact Nat.le_of_ble_eq_true rfl | ((try dsimp only); (try simp only [List.length_map, List.length_cons, List.length_nil, List.length_append, List.length_set, List.length_replicate, List.length_range]); omega)))) | ((first | apply zA | apply zC | apply zE | apply zG); (· omega)) | ((first | apply zB | apply zD | apply zF | apply zH); (· omega)) | ((first | apply zI | apply zK); (· assumption)) | ((first | apply zJ | apply zL); (· assumption)) | fail)
          conv => whnf
          apply Exists.intro (k + 1, _, _)
          refine ⟨?inv, ?mu, ?wk⟩
          case wk =>
            conv => whnf
            refine weakH_of (HW.refl _) ?_
            repeat' (first | exact WT.nil | refine WT.same ?_ | refine WT.drop ?_ | refine WT.int (by omega) ?_ | refine WT.eq (by assumption) ?_)
          case mu => first | omega | (dsimp only; omega)
          case inv => exact ⟨by omega, by (repeat (first | exact AHeap.le.refl _ | assumption | refine AHeap.le.push ?_ _ | refine AHeap.le.set ?_ (by first | omega | (simp; done) | (simp; omega)) _ | refine AHeap.le.kill ?_ (by first | omega | (simp; done) | (simp; omega)))), .inr ⟨_, by simp only [List.length_map, List.length_range]; rfl, by rw [range_snoc, List.map_append]; (repeat (first | assumption | ((first | apply yP | apply yQ); (first | omega | (simp; done) | (simp; omega))) | ((first | refine (yR _ _ ?_).trans ?_ | refine (yS _ _ ?_).trans ?_ | refine (yT _ ?_).trans ?_ | refine (yU (by assumption) _ ?_).trans ?_); (· (first | omega | (simp; done) | (simp; omega)))) | exact rfl)), by simp; omega, by simp⟩⟩
      · have hkn : k = n.toNat := by omega
        subst hkn
        obtain ⟨p, rfl, hr⟩ := hv.fz (b := H.size) (by omega) (by simp [maxN]; omega) (by
          intro x hx
          obtain ⟨i, _, rfl⟩ := List.mem_map.1 hx
          have := nowF_gain (n := n) (i := i) ha hb (by omega)
          unfold isGain at this
          unfold inR
          omega)
        repeat' ((conv => whnf); first | (apply drawS_auto mixed tt_ok; (· kernel_rfl)) | apply zZ | apply yA | apply yB | ((first | apply zA | apply zC | apply zE | apply zG); (· assumption)) | ((first | apply zB | apply zD | apply zF | apply zH); (· assumption)) | apply zM | apply zN | apply zO | apply zP | apply zQ | apply zR | apply zS | apply zT | apply zU | (apply zV; (· omega)) | (apply zW; (· omega)) | (apply zX; (· (first | omega | (dsimp only; omega)))) | (apply zY; (try (apply zY; apply zX; (· omega))); apply zX; (· omega); apply zX; (· (first | omega | (dsimp only; omega)))) | ((first | apply yJ | apply yK | apply yL | apply yM | apply yN | apply yO); (· (repeat (first | assumption | ((first | apply yP | apply yQ); (first | omega | (simp; done) | (simp; omega))) | ((first | refine (yR _ _ ?_).trans ?_ | refine (yS _ _ ?_).trans ?_ | refine (yT _ ?_).trans ?_ | refine (yU (by assumption) _ ?_).trans ?_); (· (first | omega | (simp; done) | (simp; omega)))) | exact rfl))); (· (constructor <;> first | trivial | rfl | exact Nat.le_of_ble_eq_true rfl | ((try dsimp only); (try simp only [List.length_map, List.length_cons, List.length_nil, List.length_append, List.length_set, List.length_replicate, List.length_range]); omega)))) | ((first | apply zA | apply zC | apply zE | apply zG); (· omega)) | ((first | apply zB | apply zD | apply zF | apply zH); (· omega)) | ((first | apply zI | apply zK); (· assumption)) | ((first | apply zJ | apply zL); (· assumption)) | fail)
        conv => whnf
        refine ⟨_, HW.fz _ H.size, ?_⟩
        have e : stepsL a b n.toNat = (List.range n.toNat).map fun (i : Nat) => nowF a b n i := by
          unfold stepsL; rw [show ((n.toNat : Nat) : Int) = n by omega]
        rw [e] at h
        exact h _ p (hle.fz (by omega)) hr
    · unfold stepsM stepsE at h
      simp only [if_pos hg, if_neg h4] at h
      refine callS_walk tt_ok Try.func14 rfl (by kernel_rfl) ?_
      conv => whnf
      repeat' ((conv => whnf); first | (apply gain_v; (· assumption)) | (apply drawS_auto mixed tt_ok; (· kernel_rfl)) | apply zZ | apply yA | apply yB | ((first | apply zA | apply zC | apply zE | apply zG); (· assumption)) | ((first | apply zB | apply zD | apply zF | apply zH); (· assumption)) | apply zM | apply zN | apply zO | apply zP | apply zQ | apply zR | apply zS | apply zT | apply zU | (apply zV; (· omega)) | (apply zW; (· omega)) | (apply zX; (· (first | omega | (dsimp only; omega)))) | (apply zY; (try (apply zY; apply zX; (· omega))); apply zX; (· omega); apply zX; (· (first | omega | (dsimp only; omega)))) | ((first | apply yJ | apply yK | apply yL | apply yM | apply yN | apply yO); (· (repeat (first | assumption | ((first | apply yP | apply yQ); (first | omega | (simp; done) | (simp; omega))) | ((first | refine (yR _ _ ?_).trans ?_ | refine (yS _ _ ?_).trans ?_ | refine (yT _ ?_).trans ?_ | refine (yU (by assumption) _ ?_).trans ?_); (· (first | omega | (simp; done) | (simp; omega)))) | exact rfl))); (· (constructor <;> first | trivial | rfl | exact Nat.le_of_ble_eq_true rfl | ((try dsimp only); (try simp only [List.length_map, List.length_cons, List.length_nil, List.length_append, List.length_set, List.length_replicate, List.length_range]); omega)))) | ((first | apply zA | apply zC | apply zE | apply zG); (· omega)) | ((first | apply zB | apply zD | apply zF | apply zH); (· omega)) | ((first | apply zI | apply zK); (· assumption)) | ((first | apply zJ | apply zL); (· assumption)) | fail)
      conv => whnf
      exact h _ none (AHeap.le.refl _) .nil
  · unfold stepsM stepsE at h
    simp only [if_neg hg] at h
    have h := h _ none (AHeap.le.refl _) .nil
    have h1 := hn.1
    have h2 := hn.2
    cases hba : bad a with
    | true =>
      refine callS_walk tt_ok Try.func14 rfl (by kernel_rfl) ?_
      conv => whnf
      repeat' ((conv => whnf); first | (apply gain_v; (· assumption)) | (apply drawS_auto mixed tt_ok; (· kernel_rfl)) | apply zZ | apply yA | apply yB | ((first | apply zA | apply zC | apply zE | apply zG); (· assumption)) | ((first | apply zB | apply zD | apply zF | apply zH); (· assumption)) | apply zM | apply zN | apply zO | apply zP | apply zQ | apply zR | apply zS | apply zT | apply zU | (apply zV; (· omega)) | (apply zW; (· omega)) | (apply zX; (· (first | omega | (dsimp only; omega)))) | (apply zY; (try (apply zY; apply zX; (· omega))); apply zX; (· omega); apply zX; (· (first | omega | (dsimp only; omega)))) | ((first | apply yJ | apply yK | apply yL | apply yM | apply yN | apply yO); (· (repeat (first | assumption | ((first | apply yP | apply yQ); (first | omega | (simp; done) | (simp; omega))) | ((first | refine (yR _ _ ?_).trans ?_ | refine (yS _ _ ?_).trans ?_ | refine (yT _ ?_).trans ?_ | refine (yU (by assumption) _ ?_).trans ?_); (· (first | omega | (simp; done) | (simp; omega)))) | exact rfl))); (· (constructor <;> first | trivial | rfl | exact Nat.le_of_ble_eq_true rfl | ((try dsimp only); (try simp only [List.length_map, List.length_cons, List.length_nil, List.length_append, List.length_set, List.length_replicate, List.length_range]); omega)))) | ((first | apply zA | apply zC | apply zE | apply zG); (· omega)) | ((first | apply zB | apply zD | apply zF | apply zH); (· omega)) | ((first | apply zI | apply zK); (· assumption)) | ((first | apply zJ | apply zL); (· assumption)) | fail)
      conv => whnf
      exact h
    | false =>
      cases hbb : bad b with
      | true =>
        refine callS_walk tt_ok Try.func14 rfl (by kernel_rfl) ?_
        conv => whnf
        repeat' ((conv => whnf); first | (apply gain_v; (· assumption)) | (apply drawS_auto mixed tt_ok; (· kernel_rfl)) | apply zZ | apply yA | apply yB | ((first | apply zA | apply zC | apply zE | apply zG); (· assumption)) | ((first | apply zB | apply zD | apply zF | apply zH); (· assumption)) | apply zM | apply zN | apply zO | apply zP | apply zQ | apply zR | apply zS | apply zT | apply zU | (apply zV; (· omega)) | (apply zW; (· omega)) | (apply zX; (· (first | omega | (dsimp only; omega)))) | (apply zY; (try (apply zY; apply zX; (· omega))); apply zX; (· omega); apply zX; (· (first | omega | (dsimp only; omega)))) | ((first | apply yJ | apply yK | apply yL | apply yM | apply yN | apply yO); (· (repeat (first | assumption | ((first | apply yP | apply yQ); (first | omega | (simp; done) | (simp; omega))) | ((first | refine (yR _ _ ?_).trans ?_ | refine (yS _ _ ?_).trans ?_ | refine (yT _ ?_).trans ?_ | refine (yU (by assumption) _ ?_).trans ?_); (· (first | omega | (simp; done) | (simp; omega)))) | exact rfl))); (· (constructor <;> first | trivial | rfl | exact Nat.le_of_ble_eq_true rfl | ((try dsimp only); (try simp only [List.length_map, List.length_cons, List.length_nil, List.length_append, List.length_set, List.length_replicate, List.length_range]); omega)))) | ((first | apply zA | apply zC | apply zE | apply zG); (· omega)) | ((first | apply zB | apply zD | apply zF | apply zH); (· omega)) | ((first | apply zI | apply zK); (· assumption)) | ((first | apply zJ | apply zL); (· assumption)) | fail)
        conv => whnf
        exact h
      | false =>
        have hn3 : ¬(0 ≤ n ∧ n ≤ 1000000000) := fun h => hg ⟨bad_t.1 hba, bad_t.1 hbb, h⟩
        refine callS_walk tt_ok Try.func14 rfl (by kernel_rfl) ?_
        conv => whnf
        by_cases h5 : n < 0
        · skip
          repeat' ((conv => whnf); first | (apply gain_v; (· assumption)) | (apply drawS_auto mixed tt_ok; (· kernel_rfl)) | apply zZ | apply yA | apply yB | ((first | apply zA | apply zC | apply zE | apply zG); (· assumption)) | ((first | apply zB | apply zD | apply zF | apply zH); (· assumption)) | apply zM | apply zN | apply zO | apply zP | apply zQ | apply zR | apply zS | apply zT | apply zU | (apply zV; (· omega)) | (apply zW; (· omega)) | (apply zX; (· (first | omega | (dsimp only; omega)))) | (apply zY; (try (apply zY; apply zX; (· omega))); apply zX; (· omega); apply zX; (· (first | omega | (dsimp only; omega)))) | ((first | apply yJ | apply yK | apply yL | apply yM | apply yN | apply yO); (· (repeat (first | assumption | ((first | apply yP | apply yQ); (first | omega | (simp; done) | (simp; omega))) | ((first | refine (yR _ _ ?_).trans ?_ | refine (yS _ _ ?_).trans ?_ | refine (yT _ ?_).trans ?_ | refine (yU (by assumption) _ ?_).trans ?_); (· (first | omega | (simp; done) | (simp; omega)))) | exact rfl))); (· (constructor <;> first | trivial | rfl | exact Nat.le_of_ble_eq_true rfl | ((try dsimp only); (try simp only [List.length_map, List.length_cons, List.length_nil, List.length_append, List.length_set, List.length_replicate, List.length_range]); omega)))) | ((first | apply zA | apply zC | apply zE | apply zG); (· omega)) | ((first | apply zB | apply zD | apply zF | apply zH); (· omega)) | ((first | apply zI | apply zK); (· assumption)) | ((first | apply zJ | apply zL); (· assumption)) | fail)
          conv => whnf
          exact h
        · skip
          repeat' ((conv => whnf); first | (apply gain_v; (· assumption)) | (apply drawS_auto mixed tt_ok; (· kernel_rfl)) | apply zZ | apply yA | apply yB | ((first | apply zA | apply zC | apply zE | apply zG); (· assumption)) | ((first | apply zB | apply zD | apply zF | apply zH); (· assumption)) | apply zM | apply zN | apply zO | apply zP | apply zQ | apply zR | apply zS | apply zT | apply zU | (apply zV; (· omega)) | (apply zW; (· omega)) | (apply zX; (· (first | omega | (dsimp only; omega)))) | (apply zY; (try (apply zY; apply zX; (· omega))); apply zX; (· omega); apply zX; (· (first | omega | (dsimp only; omega)))) | ((first | apply yJ | apply yK | apply yL | apply yM | apply yN | apply yO); (· (repeat (first | assumption | ((first | apply yP | apply yQ); (first | omega | (simp; done) | (simp; omega))) | ((first | refine (yR _ _ ?_).trans ?_ | refine (yS _ _ ?_).trans ?_ | refine (yT _ ?_).trans ?_ | refine (yU (by assumption) _ ?_).trans ?_); (· (first | omega | (simp; done) | (simp; omega)))) | exact rfl))); (· (constructor <;> first | trivial | rfl | exact Nat.le_of_ble_eq_true rfl | ((try dsimp only); (try simp only [List.length_map, List.length_cons, List.length_nil, List.length_append, List.length_set, List.length_replicate, List.length_range]); omega)))) | ((first | apply zA | apply zC | apply zE | apply zG); (· omega)) | ((first | apply zB | apply zD | apply zF | apply zH); (· omega)) | ((first | apply zI | apply zK); (· assumption)) | ((first | apply zJ | apply zL); (· assumption)) | fail)
          conv => whnf
          exact h
end Go.Abs
