/- Contracts of the volume functions on numbers. -/
import Derived.Test.YtoakdiccepcelaaC06
set_option linter.all false
set_option maxHeartbeats 400000
set_option maxRecDepth 20000
namespace Go.Abs
open Go Go.Proofs
theorem within_c {n lo hi : Int} {H : AHeap} {K : CK} (h : K (.returned (.bool (decide (lo ≤ n) && decide (n ≤ hi)))) H) : callS P (fnV 48) [iv n, iv lo, iv hi] H K := by
  refine callS_walk tt_ok Try.func48 rfl (by kernel_rfl) ?_
  conv => whnf
  by_cases h1 : lo ≤ n
  · skip
    repeat' ((conv => whnf); first | (apply drawS_auto mixed tt_ok; (· kernel_rfl)) | apply zZ | apply yA | apply yB | ((first | apply zA | apply zC | apply zE | apply zG); (· assumption)) | ((first | apply zB | apply zD | apply zF | apply zH); (· assumption)) | apply zM | apply zN | apply zO | apply zP | apply zQ | apply zR | apply zS | apply zT | apply zU | (apply zV; (· omega)) | (apply zW; (· omega)) | (apply zX; (· (first | omega | (dsimp only; omega)))) | (apply zY; (try (apply zY; apply zX; (· omega))); apply zX; (· omega); apply zX; (· (first | omega | (dsimp only; omega)))) | ((first | apply zA | apply zC | apply zE | apply zG); (· omega)) | ((first | apply zB | apply zD | apply zF | apply zH); (· omega)) | ((first | apply zI | apply zK); (· assumption)) | ((first | apply zJ | apply zL); (· assumption)) | fail)
    conv => whnf
    simpa [h1] using h
  · skip
    repeat' ((conv => whnf); first | (apply drawS_auto mixed tt_ok; (· kernel_rfl)) | apply zZ | apply yA | apply yB | ((first | apply zA | apply zC | apply zE | apply zG); (· assumption)) | ((first | apply zB | apply zD | apply zF | apply zH); (· assumption)) | apply zM | apply zN | apply zO | apply zP | apply zQ | apply zR | apply zS | apply zT | apply zU | (apply zV; (· omega)) | (apply zW; (· omega)) | (apply zX; (· (first | omega | (dsimp only; omega)))) | (apply zY; (try (apply zY; apply zX; (· omega))); apply zX; (· omega); apply zX; (· (first | omega | (dsimp only; omega)))) | ((first | apply zA | apply zC | apply zE | apply zG); (· omega)) | ((first | apply zB | apply zD | apply zF | apply zH); (· omega)) | ((first | apply zI | apply zK); (· assumption)) | ((first | apply zJ | apply zL); (· assumption)) | fail)
    conv => whnf
    simpa [h1] using h
theorem odd_c {n : Int} {H : AHeap} {K : CK} (h : K (.returned (.bool (!(decide (0 ≤ n) && decide (n ≤ 655360))))) H) : callS P (fnV 47) [iv n] H K := by
  refine callS_walk tt_ok Try.func47 rfl (by kernel_rfl) ?_
  conv => whnf
  refine within_c ?_
  repeat' ((conv => whnf); first | apply yA | apply yB | ((first | apply zA | apply zC | apply zE | apply zG); (· assumption)) | ((first | apply zB | apply zD | apply zF | apply zH); (· assumption)) | apply zM | apply zN | apply zO | apply zP | apply zQ | apply zR | apply zS | apply zT | apply zU | (apply zV; (· omega)) | (apply zW; (· omega)) | (apply zX; (· (first | omega | (dsimp only; omega)))) | (apply zY; (try (apply zY; apply zX; (· omega))); apply zX; (· omega); apply zX; (· (first | omega | (dsimp only; omega)))) | ((first | apply zA | apply zC | apply zE | apply zG); (· omega)) | ((first | apply zB | apply zD | apply zF | apply zH); (· omega)) | ((first | apply zI | apply zK); (· assumption)) | ((first | apply zJ | apply zL); (· assumption)) | fail)
  conv => whnf
  exact h
def rnd (a n : Int) : Int := if a < 0 then 0 - ((0 - a + n.tdiv 2).tdiv n) else (a + n.tdiv 2).tdiv n
theorem rounded_c {a n : Int} (ha : -4611686018427387904 ≤ a ∧ a ≤ 4611686018427387904) (hn : 0 < n ∧ n ≤ 4611686018427387904) {H : AHeap} {K : CK} (h : K (.returned (iv (rnd a n))) H) : callS P (fnV 60) [iv a, iv n] H K := by
  have h2 : n.tdiv 2 = n / 2 := Int.tdiv_eq_ediv_of_nonneg (by omega)
  have hb : ∀ x : Int, 0 ≤ x → 0 ≤ x.tdiv n ∧ x.tdiv n ≤ x := fun x hx => by
    rw [Int.tdiv_eq_ediv_of_nonneg hx]
    exact ⟨Int.ediv_nonneg hx (by omega), Int.ediv_le_self _ hx⟩
  refine callS_walk tt_ok Try.func60 rfl (by kernel_rfl) ?_
  conv => whnf
  unfold rnd at h
  by_cases h1 : a < 0
  · have h3 := hb (0 - a + n.tdiv 2) (by omega)
    rw [if_pos h1] at h
    repeat' ((conv => whnf); first | apply yA | apply yB | ((first | apply zA | apply zC | apply zE | apply zG); (· assumption)) | ((first | apply zB | apply zD | apply zF | apply zH); (· assumption)) | apply zM | apply zN | apply zO | apply zP | apply zQ | apply zR | apply zS | apply zT | apply zU | (apply zV; (· omega)) | (apply zW; (· omega)) | (apply zX; (· (first | omega | (dsimp only; omega)))) | (apply zY; (try (apply zY; apply zX; (· omega))); apply zX; (· omega); apply zX; (· (first | omega | (dsimp only; omega)))) | ((first | apply zA | apply zC | apply zE | apply zG); (· omega)) | ((first | apply zB | apply zD | apply zF | apply zH); (· omega)) | ((first | apply zI | apply zK); (· assumption)) | ((first | apply zJ | apply zL); (· assumption)) | fail)
    conv => whnf
    exact h
  · have h3 := hb (a + n.tdiv 2) (by omega)
    rw [if_neg h1] at h
    repeat' ((conv => whnf); first | apply yA | apply yB | ((first | apply zA | apply zC | apply zE | apply zG); (· assumption)) | ((first | apply zB | apply zD | apply zF | apply zH); (· assumption)) | apply zM | apply zN | apply zO | apply zP | apply zQ | apply zR | apply zS | apply zT | apply zU | (apply zV; (· omega)) | (apply zW; (· omega)) | (apply zX; (· (first | omega | (dsimp only; omega)))) | (apply zY; (try (apply zY; apply zX; (· omega))); apply zX; (· omega); apply zX; (· (first | omega | (dsimp only; omega)))) | ((first | apply zA | apply zC | apply zE | apply zG); (· omega)) | ((first | apply zB | apply zD | apply zF | apply zH); (· omega)) | ((first | apply zI | apply zK); (· assumption)) | ((first | apply zJ | apply zL); (· assumption)) | fail)
    conv => whnf
    exact h
theorem bounded_c {n m : Int} (hm : -4611686018427387904 ≤ m ∧ m ≤ 4611686018427387904) {H : AHeap} {K : CK} (h : K (.returned (iv (max (0 - m) (min m n)))) H) : callS P (fnV 59) [iv n, iv m] H K := by
  refine callS_walk tt_ok Try.func59 rfl (by kernel_rfl) ?_
  conv => whnf
  repeat' ((conv => whnf); first | apply yA | apply yB | ((first | apply zA | apply zC | apply zE | apply zG); (· assumption)) | ((first | apply zB | apply zD | apply zF | apply zH); (· assumption)) | apply zM | apply zN | apply zO | apply zP | apply zQ | apply zR | apply zS | apply zT | apply zU | (apply zV; (· omega)) | (apply zW; (· omega)) | (apply zX; (· (first | omega | (dsimp only; omega)))) | (apply zY; (try (apply zY; apply zX; (· omega))); apply zX; (· omega); apply zX; (· (first | omega | (dsimp only; omega)))) | ((first | apply zA | apply zC | apply zE | apply zG); (· omega)) | ((first | apply zB | apply zD | apply zF | apply zH); (· omega)) | ((first | apply zI | apply zK); (· assumption)) | ((first | apply zJ | apply zL); (· assumption)) | fail)
  conv => whnf
  exact h

/-- a row of whole numbers in memory -/
def IsRow (H : AHeap) (v : Value) (xs : List Int) : Prop :=
  (∀ x ∈ xs, -9223372036854775808 ≤ x ∧ x ≤ 9223372036854775807) ∧ ((v = .slice none 0 0 ∧ xs = []) ∨
  ∃ i off cap c own sz, v = .slice (some ⟨i, off, none⟩) xs.length cap ∧ H.get i = some (.cells c own sz) ∧ ∀ (k : Nat) x, xs[k]? = some x → c[off + k]? = some (iv x))

theorem index_c {v fv : Value} {xs : List Int} {p : Int → Bool} {H : AHeap} {K : CK} (hx : IsRow H v xs)
    (hf : ∀ x ∈ xs, ∀ K : CK, K (.returned (.bool (p x))) H → callS P fv [iv x] H K)
    (hlen : xs.length ≤ 9223372036854775807)
    (h1 : ∀ k : Nat, xs.any p = true → K (.returned (iv k)) H) (h2 : xs.any p = false → K (.returned (iv (-1))) H) : callS P (fnV 87) [v, fv] H K := by
  obtain ⟨hr, hx⟩ := hx
  have hl : ∃ a cap, v = .slice a xs.length cap := by
    rcases hx with ⟨rfl, rfl⟩ | ⟨i, off, cap, c, own, sz, rfl, _⟩
    · exact ⟨_, _, rfl⟩
    · exact ⟨_, _, rfl⟩
  obtain ⟨a, cap, rfl⟩ := hl
  refine callS_walk tt_ok Try.func87 rfl (by kernel_rfl) ?_
  conv => whnf
  let S : Nat → St := fun k => ⟨[.slice a xs.length cap, fv, undef, undef, undef, undef, undef, iv xs.length, iv k, undef, undef, undef, undef, undef, undef, undef, undef, undef, undef], [], .run, H⟩
  refine loopS_weak (s' := S 0) (weak_of ?_) ?_
  · skip
    repeat' (first | exact WT.nil | refine WT.same ?_ | refine WT.drop ?_ | refine WT.int (by omega) ?_ | refine WT.eq (by assumption) ?_)
  refine loopS_ix (ι := Nat) tt_ok S (fun k => k ≤ xs.length ∧ (xs.take k).any p = false) (fun k => xs.length - k) (fun k hk => ?_) 0 ⟨by omega, by simp⟩
  obtain ⟨hk, hany⟩ := hk
  by_cases hlt : (k : Int) < (xs.length : Int)
  · have hk' : k < xs.length := by omega
    obtain ⟨i, off, cap', c, own, sz, e1, hget, hcells⟩ : ∃ i off cap' c own sz, Value.slice a xs.length cap = .slice (some ⟨i, off, none⟩) xs.length cap' ∧ H.get i = some (.cells c own sz) ∧ ∀ (k : Nat) x, xs[k]? = some x → c[off + k]? = some (iv x) := by
      rcases hx with ⟨e, rfl⟩ | hx
      · simp at hk'
      · exact hx
    injection e1 with e2 e3 e4
    subst e2 e4
    have hxk : xs[k]? = some xs[k] := by simp
    have hc := hcells k _ hxk
    repeat' ((conv => whnf); first | ((first | (apply yC; (case h => assumption); (case' he => refine ⟨by omega, ?_⟩)) | (apply yD; (case h => assumption); (case' he => refine ⟨by omega, ?_⟩)) | (apply yE; (case h => assumption); (case' he => refine ⟨by omega, by omega, fun hr_ => ?_⟩)) | (apply yF; (case h => assumption); (case' he => refine ⟨by omega, by omega, fun hr_ => ?_⟩)) | (apply yG; (case h => assumption); (case' he => refine ⟨by omega, ?_⟩)) | (apply yH; (case h => assumption); (case' he => refine ⟨by omega, fun hr_ => ?_⟩)) | (apply yI; (case h => assumption); (case' he => refine ⟨by omega, fun hr_ => ?_⟩))); (case hk => first | exact Kp.refl _ | (repeat (first | exact Kp.refl _ | assumption | refine yV ?_ _ | (apply yW; (case g => exact ⟨_, by (repeat (first | assumption | ((first | apply yP | apply yQ); (first | omega | (simp; done) | (simp; omega))) | ((first | refine (yR _ _ ?_).trans ?_ | refine (yS _ _ ?_).trans ?_ | refine (yT _ ?_).trans ?_ | refine (yU (by assumption) _ ?_).trans ?_); (· (first | omega | (simp; done) | (simp; omega)))) | exact rfl)), rfl⟩)) | (apply yX; (case g => exact ⟨_, by (repeat (first | assumption | ((first | apply yP | apply yQ); (first | omega | (simp; done) | (simp; omega))) | ((first | refine (yR _ _ ?_).trans ?_ | refine (yS _ _ ?_).trans ?_ | refine (yT _ ?_).trans ?_ | refine (yU (by assumption) _ ?_).trans ?_); (· (first | omega | (simp; done) | (simp; omega)))) | exact rfl)), rfl⟩)) | refine Kp.fz ?_ _ | exact yY (by assumption) | refine Kp.trans ?_ (yY (by assumption)))))) | apply yA | apply yB | ((first | apply zA | apply zC | apply zE | apply zG); (· assumption)) | ((first | apply zB | apply zD | apply zF | apply zH); (· assumption)) | apply zM | apply zN | apply zO | apply zP | apply zQ | apply zR | apply zS | apply zT | apply zU | (apply zV; (· omega)) | (apply zW; (· omega)) | (apply zX; (· (first | omega | (dsimp only; omega)))) | (apply zY; (try (apply zY; apply zX; (· omega))); apply zX; (· omega); apply zX; (· (first | omega | (dsimp only; omega)))) | ((first | apply yJ | apply yK | apply yL | apply yM | apply yN | apply yO); (· (repeat (first | assumption | ((first | apply yP | apply yQ); (first | omega | (simp; done) | (simp; omega))) | ((first | refine (yR _ _ ?_).trans ?_ | refine (yS _ _ ?_).trans ?_ | refine (yT _ ?_).trans ?_ | refine (yU (by assumption) _ ?_).trans ?_); (· (first | omega | (simp; done) | (simp; omega)))) | exact rfl))); (· (constructor <;> first | trivial | rfl | exact Nat.le_of_ble_eq_true rfl | ((try dsimp only); (try simp only [List.length_map, List.length_cons, List.length_nil, List.length_append, List.length_set, List.length_replicate, List.length_range]); omega)))) | ((first | apply zA | apply zC | apply zE | apply zG); (· omega)) | ((first | apply zB | apply zD | apply zF | apply zH); (· omega)) | ((first | apply zI | apply zK); (· assumption)) | ((first | apply zJ | apply zL); (· assumption)) | fail)
    conv => whnf
    refine loadK_get hget (v := iv xs[k]) (by simpa using hc) ?_
    conv => whnf
    refine hf xs[k] (List.getElem_mem _) _ ?_
    conv => whnf
    refine condK_of (fun hp => ?_) (fun hp => ?_)
    · skip
      repeat' ((conv => whnf); first | ((first | (apply yC; (case h => assumption); (case' he => refine ⟨by omega, ?_⟩)) | (apply yD; (case h => assumption); (case' he => refine ⟨by omega, ?_⟩)) | (apply yE; (case h => assumption); (case' he => refine ⟨by omega, by omega, fun hr_ => ?_⟩)) | (apply yF; (case h => assumption); (case' he => refine ⟨by omega, by omega, fun hr_ => ?_⟩)) | (apply yG; (case h => assumption); (case' he => refine ⟨by omega, ?_⟩)) | (apply yH; (case h => assumption); (case' he => refine ⟨by omega, fun hr_ => ?_⟩)) | (apply yI; (case h => assumption); (case' he => refine ⟨by omega, fun hr_ => ?_⟩))); (case hk => first | exact Kp.refl _ | (repeat (first | exact Kp.refl _ | assumption | refine yV ?_ _ | (apply yW; (case g => exact ⟨_, by (repeat (first | assumption | ((first | apply yP | apply yQ); (first | omega | (simp; done) | (simp; omega))) | ((first | refine (yR _ _ ?_).trans ?_ | refine (yS _ _ ?_).trans ?_ | refine (yT _ ?_).trans ?_ | refine (yU (by assumption) _ ?_).trans ?_); (· (first | omega | (simp; done) | (simp; omega)))) | exact rfl)), rfl⟩)) | (apply yX; (case g => exact ⟨_, by (repeat (first | assumption | ((first | apply yP | apply yQ); (first | omega | (simp; done) | (simp; omega))) | ((first | refine (yR _ _ ?_).trans ?_ | refine (yS _ _ ?_).trans ?_ | refine (yT _ ?_).trans ?_ | refine (yU (by assumption) _ ?_).trans ?_); (· (first | omega | (simp; done) | (simp; omega)))) | exact rfl)), rfl⟩)) | refine Kp.fz ?_ _ | exact yY (by assumption) | refine Kp.trans ?_ (yY (by assumption)))))) | apply yA | apply yB | ((first | apply zA | apply zC | apply zE | apply zG); (· assumption)) | ((first | apply zB | apply zD | apply zF | apply zH); (· assumption)) | apply zM | apply zN | apply zO | apply zP | apply zQ | apply zR | apply zS | apply zT | apply zU | (apply zV; (· omega)) | (apply zW; (· omega)) | (apply zX; (· (first | omega | (dsimp only; omega)))) | (apply zY; (try (apply zY; apply zX; (· omega))); apply zX; (· omega); apply zX; (· (first | omega | (dsimp only; omega)))) | ((first | apply yJ | apply yK | apply yL | apply yM | apply yN | apply yO); (· (repeat (first | assumption | ((first | apply yP | apply yQ); (first | omega | (simp; done) | (simp; omega))) | ((first | refine (yR _ _ ?_).trans ?_ | refine (yS _ _ ?_).trans ?_ | refine (yT _ ?_).trans ?_ | refine (yU (by assumption) _ ?_).trans ?_); (· (first | omega | (simp; done) | (simp; omega)))) | exact rfl))); (· (constructor <;> first | trivial | rfl | exact Nat.le_of_ble_eq_true rfl | ((try dsimp only); (try simp only [List.length_map, List.length_cons, List.length_nil, List.length_append, List.length_set, List.length_replicate, List.length_range]); omega)))) | ((first | apply zA | apply zC | apply zE | apply zG); (· omega)) | ((first | apply zB | apply zD | apply zF | apply zH); (· omega)) | ((first | apply zI | apply zK); (· assumption)) | ((first | apply zJ | apply zL); (· assumption)) | fail)
      conv => whnf
      exact h1 k (List.any_eq_true.2 ⟨xs[k], List.getElem_mem _, hp⟩)
    · skip
      repeat' ((conv => whnf); first | ((first | (apply yC; (case h => assumption); (case' he => refine ⟨by omega, ?_⟩)) | (apply yD; (case h => assumption); (case' he => refine ⟨by omega, ?_⟩)) | (apply yE; (case h => assumption); (case' he => refine ⟨by omega, by omega, fun hr_ => ?_⟩)) | (apply yF; (case h => assumption); (case' he => refine ⟨by omega, by omega, fun hr_ => ?_⟩)) | (apply yG; (case h => assumption); (case' he => refine ⟨by omega, ?_⟩)) | (apply yH; (case h => assumption); (case' he => refine ⟨by omega, fun hr_ => ?_⟩)) | (apply yI; (case h => assumption); (case' he => refine ⟨by omega, fun hr_ => ?_⟩))); (case hk => first | exact Kp.refl _ | (repeat (first | exact Kp.refl _ | assumption | refine yV ?_ _ | (apply yW; (case g => exact ⟨_, by (repeat (first | assumption | ((first | apply yP | apply yQ); (first | omega | (simp; done) | (simp; omega))) | ((first | refine (yR _ _ ?_).trans ?_ | refine (yS _ _ ?_).trans ?_ | refine (yT _ ?_).trans ?_ | refine (yU (by assumption) _ ?_).trans ?_); (· (first | omega | (simp; done) | (simp; omega)))) | exact rfl)), rfl⟩)) | (apply yX; (case g => exact ⟨_, by (repeat (first | assumption | ((first | apply yP | apply yQ); (first | omega | (simp; done) | (simp; omega))) | ((first | refine (yR _ _ ?_).trans ?_ | refine (yS _ _ ?_).trans ?_ | refine (yT _ ?_).trans ?_ | refine (yU (by assumption) _ ?_).trans ?_); (· (first | omega | (simp; done) | (simp; omega)))) | exact rfl)), rfl⟩)) | refine Kp.fz ?_ _ | exact yY (by assumption) | refine Kp.trans ?_ (yY (by assumption)))))) | apply yA | apply yB | ((first | apply zA | apply zC | apply zE | apply zG); (· assumption)) | ((first | apply zB | apply zD | apply zF | apply zH); (· assumption)) | apply zM | apply zN | apply zO | apply zP | apply zQ | apply zR | apply zS | apply zT | apply zU | (apply zV; (· omega)) | (apply zW; (· omega)) | (apply zX; (· (first | omega | (dsimp only; omega)))) | (apply zY; (try (apply zY; apply zX; (· omega))); apply zX; (· omega); apply zX; (· (first | omega | (dsimp only; omega)))) | ((first | apply yJ | apply yK | apply yL | apply yM | apply yN | apply yO); (· (repeat (first | assumption | ((first | apply yP | apply yQ); (first | omega | (simp; done) | (simp; omega))) | ((first | refine (yR _ _ ?_).trans ?_ | refine (yS _ _ ?_).trans ?_ | refine (yT _ ?_).trans ?_ | refine (yU (by assumption) _ ?_).trans ?_); (· (first | omega | (simp; done) | (simp; omega)))) | exact rfl))); (· (constructor <;> first | trivial | rfl | exact Nat.le_of_ble_eq_true rfl | ((try dsimp only); (try simp only [List.length_map, List.length_cons, List.length_nil, List.length_append, List.length_set, List.length_replicate, List.length_range]); omega)))) | ((first | apply zA | apply zC | apply zE | apply zG); (· omega)) | ((first | apply zB | apply zD | apply zF | apply zH); (· omega)) | ((first | apply zI | apply zK); (· assumption)) | ((first | apply zJ | apply zL); (· assumption)) | fail)
      conv => whnf
      refine ⟨k + 1, ⟨by omega, ?_⟩, by omega, weak_of ?_⟩
      · rw [List.take_add_one, List.any_append, hany, hxk]
        simp [hp]
      · skip
        repeat' (first | exact WT.nil | refine WT.same ?_ | refine WT.drop ?_ | refine WT.int (by omega) ?_ | refine WT.eq (by assumption) ?_)
  · have hk' : k = xs.length := by omega
    subst hk'
    repeat' ((conv => whnf); first | ((first | (apply yC; (case h => assumption); (case' he => refine ⟨by omega, ?_⟩)) | (apply yD; (case h => assumption); (case' he => refine ⟨by omega, ?_⟩)) | (apply yE; (case h => assumption); (case' he => refine ⟨by omega, by omega, fun hr_ => ?_⟩)) | (apply yF; (case h => assumption); (case' he => refine ⟨by omega, by omega, fun hr_ => ?_⟩)) | (apply yG; (case h => assumption); (case' he => refine ⟨by omega, ?_⟩)) | (apply yH; (case h => assumption); (case' he => refine ⟨by omega, fun hr_ => ?_⟩)) | (apply yI; (case h => assumption); (case' he => refine ⟨by omega, fun hr_ => ?_⟩))); (case hk => first | exact Kp.refl _ | (repeat (first | exact Kp.refl _ | assumption | refine yV ?_ _ | (apply yW; (case g => exact ⟨_, by (repeat (first | assumption | ((first | apply yP | apply yQ); (first | omega | (simp; done) | (simp; omega))) | ((first | refine (yR _ _ ?_).trans ?_ | refine (yS _ _ ?_).trans ?_ | refine (yT _ ?_).trans ?_ | refine (yU (by assumption) _ ?_).trans ?_); (· (first | omega | (simp; done) | (simp; omega)))) | exact rfl)), rfl⟩)) | (apply yX; (case g => exact ⟨_, by (repeat (first | assumption | ((first | apply yP | apply yQ); (first | omega | (simp; done) | (simp; omega))) | ((first | refine (yR _ _ ?_).trans ?_ | refine (yS _ _ ?_).trans ?_ | refine (yT _ ?_).trans ?_ | refine (yU (by assumption) _ ?_).trans ?_); (· (first | omega | (simp; done) | (simp; omega)))) | exact rfl)), rfl⟩)) | refine Kp.fz ?_ _ | exact yY (by assumption) | refine Kp.trans ?_ (yY (by assumption)))))) | apply yA | apply yB | ((first | apply zA | apply zC | apply zE | apply zG); (· assumption)) | ((first | apply zB | apply zD | apply zF | apply zH); (· assumption)) | apply zM | apply zN | apply zO | apply zP | apply zQ | apply zR | apply zS | apply zT | apply zU | (apply zV; (· omega)) | (apply zW; (· omega)) | (apply zX; (· (first | omega | (dsimp only; omega)))) | (apply zY; (try (apply zY; apply zX; (· omega))); apply zX; (· omega); apply zX; (· (first | omega | (dsimp only; omega)))) | ((first | apply yJ | apply yK | apply yL | apply yM | apply yN | apply yO); (· (repeat (first | assumption | ((first | apply yP | apply yQ); (first | omega | (simp; done) | (simp; omega))) | ((first | refine (yR _ _ ?_).trans ?_ | refine (yS _ _ ?_).trans ?_ | refine (yT _ ?_).trans ?_ | refine (yU (by assumption) _ ?_).trans ?_); (· (first | omega | (simp; done) | (simp; omega)))) | exact rfl))); (· (constructor <;> first | trivial | rfl | exact Nat.le_of_ble_eq_true rfl | ((try dsimp only); (try simp only [List.length_map, List.length_cons, List.length_nil, List.length_append, List.length_set, List.length_replicate, List.length_range]); omega)))) | ((first | apply zA | apply zC | apply zE | apply zG); (· omega)) | ((first | apply zB | apply zD | apply zF | apply zH); (· omega)) | ((first | apply zI | apply zK); (· assumption)) | ((first | apply zJ | apply zL); (· assumption)) | fail)
    conv => whnf
    rw [List.take_length] at hany
    exact h2 hany

theorem contains_c {v fv : Value} {xs : List Int} {p : Int → Bool} {H : AHeap} {K : CK} (hx : IsRow H v xs)
    (hf : ∀ x ∈ xs, ∀ K : CK, K (.returned (.bool (p x))) H → callS P fv [iv x] H K)
    (hlen : xs.length ≤ 9223372036854775807) (h : K (.returned (.bool (xs.any p))) H) : callS P (fnV 56) [v, fv] H K := by
  refine callS_walk tt_ok Try.func56 rfl (by kernel_rfl) ?_
  conv => whnf
  refine index_c hx hf hlen (fun k hp => ?_) (fun hp => ?_)
  · skip
    repeat' ((conv => whnf); first | apply yA | apply yB | ((first | apply zA | apply zC | apply zE | apply zG); (· assumption)) | ((first | apply zB | apply zD | apply zF | apply zH); (· assumption)) | apply zM | apply zN | apply zO | apply zP | apply zQ | apply zR | apply zS | apply zT | apply zU | (apply zV; (· omega)) | (apply zW; (· omega)) | (apply zX; (· (first | omega | (dsimp only; omega)))) | (apply zY; (try (apply zY; apply zX; (· omega))); apply zX; (· omega); apply zX; (· (first | omega | (dsimp only; omega)))) | ((first | apply zA | apply zC | apply zE | apply zG); (· omega)) | ((first | apply zB | apply zD | apply zF | apply zH); (· omega)) | ((first | apply zI | apply zK); (· assumption)) | ((first | apply zJ | apply zL); (· assumption)) | fail)
    conv => whnf
    rw [hp] at h
    have : decide ((0 : Int) ≤ (k : Int)) = true := by simp
    rw [this]
    exact h
  · skip
    repeat' ((conv => whnf); first | apply yA | apply yB | ((first | apply zA | apply zC | apply zE | apply zG); (· assumption)) | ((first | apply zB | apply zD | apply zF | apply zH); (· assumption)) | apply zM | apply zN | apply zO | apply zP | apply zQ | apply zR | apply zS | apply zT | apply zU | (apply zV; (· omega)) | (apply zW; (· omega)) | (apply zX; (· (first | omega | (dsimp only; omega)))) | (apply zY; (try (apply zY; apply zX; (· omega))); apply zX; (· omega); apply zX; (· (first | omega | (dsimp only; omega)))) | ((first | apply zA | apply zC | apply zE | apply zG); (· omega)) | ((first | apply zB | apply zD | apply zF | apply zH); (· omega)) | ((first | apply zI | apply zK); (· assumption)) | ((first | apply zJ | apply zL); (· assumption)) | fail)
    conv => whnf
    rw [hp] at h
    exact h

def chainStep (a b : Int) : Int := max (0 - 655360) (min 655360 (rnd (a * b) 65536))
theorem rnd_pos {a : Int} (h : 0 ≤ a) : rnd a 65536 = (a + 32768) / 65536 := by
  unfold rnd
  rw [if_neg (by omega), show Int.tdiv 65536 2 = 32768 from rfl, Int.tdiv_eq_ediv_of_nonneg (by omega)]
theorem chain1_c {a b : Int} (ha : 0 ≤ a ∧ a ≤ 655360) (hb : 0 ≤ b ∧ b ≤ 655360) {H : AHeap} {K : CK} (h : K (.returned (iv (chainStep a b))) H) : callS P (fnV 58) [iv a, iv b] H K := by
  have h0 : 0 ≤ a * b := Int.mul_nonneg ha.1 hb.1
  have h1 : a * b ≤ 655360 * 655360 := Int.mul_le_mul ha.2 hb.2 hb.1 (by omega)
  refine callS_walk tt_ok Try.func58 rfl (by kernel_rfl) ?_
  conv => whnf
  refine intK_in (by omega) ?_
  conv => whnf
  refine rounded_c (by omega) (by omega) ?_
  conv => whnf
  refine bounded_c (by omega) ?_
  repeat' ((conv => whnf); first | apply yA | apply yB | ((first | apply zA | apply zC | apply zE | apply zG); (· assumption)) | ((first | apply zB | apply zD | apply zF | apply zH); (· assumption)) | apply zM | apply zN | apply zO | apply zP | apply zQ | apply zR | apply zS | apply zT | apply zU | (apply zV; (· omega)) | (apply zW; (· omega)) | (apply zX; (· (first | omega | (dsimp only; omega)))) | (apply zY; (try (apply zY; apply zX; (· omega))); apply zX; (· omega); apply zX; (· (first | omega | (dsimp only; omega)))) | ((first | apply zA | apply zC | apply zE | apply zG); (· omega)) | ((first | apply zB | apply zD | apply zF | apply zH); (· omega)) | ((first | apply zI | apply zK); (· assumption)) | ((first | apply zJ | apply zL); (· assumption)) | fail)
  conv => whnf
  exact h
theorem chainStep_bd {a b : Int} (ha : 0 ≤ a ∧ a ≤ 655360) (hb : 0 ≤ b ∧ b ≤ 655360) : 0 ≤ chainStep a b ∧ chainStep a b ≤ 655360 := by
  have h0 : 0 ≤ a * b := Int.mul_nonneg ha.1 hb.1
  unfold chainStep
  rw [rnd_pos h0]
  have : 0 ≤ (a * b + 32768) / 65536 := Int.ediv_nonneg (by omega) (by omega)
  omega

/-- a fold over a row, by a function that is called -/
theorem folded_c {v fv : Value} {xs : List Int} {f : Int → Int → Int} {ok : Int → Prop} {first : Int} {H : AHeap} {K : CK} (hx : IsRow H v xs) (h0 : ok first)
    (hf : ∀ a x, ok a → x ∈ xs → ok (f a x) ∧ ∀ K : CK, K (.returned (iv (f a x))) H → callS P fv [iv a, iv x] H K)
    (hlen : xs.length ≤ 9223372036854775807) (h : K (.returned (iv (xs.foldl f first))) H) : callS P (fnV 57) [v, iv first, fv] H K := by
  obtain ⟨hr, hx⟩ := hx
  have hl : ∃ a cap, v = .slice a xs.length cap := by
    rcases hx with ⟨rfl, rfl⟩ | ⟨i, off, cap, c, own, sz, rfl, _⟩
    · exact ⟨_, _, rfl⟩
    · exact ⟨_, _, rfl⟩
  obtain ⟨a, cap, rfl⟩ := hl
  refine callS_walk tt_ok Try.func57 rfl (by kernel_rfl) ?_
  conv => whnf
  let S : Nat → St := fun k => ⟨[undef, iv ((xs.take k).foldl f first), fv, undef, undef, undef, undef, undef, undef, .slice a xs.length cap, iv xs.length, iv k, undef, undef, undef, undef, undef, undef, undef, undef, undef], [], .run, H⟩
  refine loopS_weak (s' := S 0) (weak_of ?_) ?_
  · skip
    repeat' (first | exact WT.nil | refine WT.same ?_ | refine WT.drop ?_ | refine WT.int (by omega) ?_ | refine WT.eq (by assumption) ?_)
  refine loopS_ix (ι := Nat) tt_ok S (fun k => k ≤ xs.length ∧ ok ((xs.take k).foldl f first)) (fun k => xs.length - k) (fun k hk => ?_) 0 ⟨by omega, h0⟩
  obtain ⟨hk, hok⟩ := hk
  by_cases hlt : (k : Int) < (xs.length : Int)
  · have hk' : k < xs.length := by omega
    obtain ⟨i, off, cap', c, own, sz, e1, hget, hcells⟩ : ∃ i off cap' c own sz, Value.slice a xs.length cap = .slice (some ⟨i, off, none⟩) xs.length cap' ∧ H.get i = some (.cells c own sz) ∧ ∀ (k : Nat) x, xs[k]? = some x → c[off + k]? = some (iv x) := by
      rcases hx with ⟨e, rfl⟩ | hx
      · simp at hk'
      · exact hx
    injection e1 with e2 e3 e4
    subst e2 e4
    have hxk : xs[k]? = some xs[k] := by simp
    have hc := hcells k _ hxk
    have hfk := hf _ xs[k] hok (List.getElem_mem _)
    have hstep : (xs.take (k + 1)).foldl f first = f ((xs.take k).foldl f first) xs[k] := by
      rw [List.take_add_one, List.foldl_append, hxk]
      rfl
    repeat' ((conv => whnf); first | ((first | (apply yC; (case h => assumption); (case' he => refine ⟨by omega, ?_⟩)) | (apply yD; (case h => assumption); (case' he => refine ⟨by omega, ?_⟩)) | (apply yE; (case h => assumption); (case' he => refine ⟨by omega, by omega, fun hr_ => ?_⟩)) | (apply yF; (case h => assumption); (case' he => refine ⟨by omega, by omega, fun hr_ => ?_⟩)) | (apply yG; (case h => assumption); (case' he => refine ⟨by omega, ?_⟩)) | (apply yH; (case h => assumption); (case' he => refine ⟨by omega, fun hr_ => ?_⟩)) | (apply yI; (case h => assumption); (case' he => refine ⟨by omega, fun hr_ => ?_⟩))); (case hk => first | exact Kp.refl _ | (repeat (first | exact Kp.refl _ | assumption | refine yV ?_ _ | (apply yW; (case g => exact ⟨_, by (repeat (first | assumption | ((first | apply yP | apply yQ); (first | omega | (simp; done) | (simp; omega))) | ((first | refine (yR _ _ ?_).trans ?_ | refine (yS _ _ ?_).trans ?_ | refine (yT _ ?_).trans ?_ | refine (yU (by assumption) _ ?_).trans ?_); (· (first | omega | (simp; done) | (simp; omega)))) | exact rfl)), rfl⟩)) | (apply yX; (case g => exact ⟨_, by (repeat (first | assumption | ((first | apply yP | apply yQ); (first | omega | (simp; done) | (simp; omega))) | ((first | refine (yR _ _ ?_).trans ?_ | refine (yS _ _ ?_).trans ?_ | refine (yT _ ?_).trans ?_ | refine (yU (by assumption) _ ?_).trans ?_); (· (first | omega | (simp; done) | (simp; omega)))) | exact rfl)), rfl⟩)) | refine Kp.fz ?_ _ | exact yY (by assumption) | refine Kp.trans ?_ (yY (by assumption)))))) | apply yA | apply yB | ((first | apply zA | apply zC | apply zE | apply zG); (· assumption)) | ((first | apply zB | apply zD | apply zF | apply zH); (· assumption)) | apply zM | apply zN | apply zO | apply zP | apply zQ | apply zR | apply zS | apply zT | apply zU | (apply zV; (· omega)) | (apply zW; (· omega)) | (apply zX; (· (first | omega | (dsimp only; omega)))) | (apply zY; (try (apply zY; apply zX; (· omega))); apply zX; (· omega); apply zX; (· (first | omega | (dsimp only; omega)))) | ((first | apply yJ | apply yK | apply yL | apply yM | apply yN | apply yO); (· (repeat (first | assumption | ((first | apply yP | apply yQ); (first | omega | (simp; done) | (simp; omega))) | ((first | refine (yR _ _ ?_).trans ?_ | refine (yS _ _ ?_).trans ?_ | refine (yT _ ?_).trans ?_ | refine (yU (by assumption) _ ?_).trans ?_); (· (first | omega | (simp; done) | (simp; omega)))) | exact rfl))); (· (constructor <;> first | trivial | rfl | exact Nat.le_of_ble_eq_true rfl | ((try dsimp only); (try simp only [List.length_map, List.length_cons, List.length_nil, List.length_append, List.length_set, List.length_replicate, List.length_range]); omega)))) | ((first | apply zA | apply zC | apply zE | apply zG); (· omega)) | ((first | apply zB | apply zD | apply zF | apply zH); (· omega)) | ((first | apply zI | apply zK); (· assumption)) | ((first | apply zJ | apply zL); (· assumption)) | fail)
    conv => whnf
    refine loadK_get hget (v := iv xs[k]) (by simpa using hc) ?_
    conv => whnf
    refine hfk.2 _ ?_
    repeat' ((conv => whnf); first | ((first | (apply yC; (case h => assumption); (case' he => refine ⟨by omega, ?_⟩)) | (apply yD; (case h => assumption); (case' he => refine ⟨by omega, ?_⟩)) | (apply yE; (case h => assumption); (case' he => refine ⟨by omega, by omega, fun hr_ => ?_⟩)) | (apply yF; (case h => assumption); (case' he => refine ⟨by omega, by omega, fun hr_ => ?_⟩)) | (apply yG; (case h => assumption); (case' he => refine ⟨by omega, ?_⟩)) | (apply yH; (case h => assumption); (case' he => refine ⟨by omega, fun hr_ => ?_⟩)) | (apply yI; (case h => assumption); (case' he => refine ⟨by omega, fun hr_ => ?_⟩))); (case hk => first | exact Kp.refl _ | (repeat (first | exact Kp.refl _ | assumption | refine yV ?_ _ | (apply yW; (case g => exact ⟨_, by (repeat (first | assumption | ((first | apply yP | apply yQ); (first | omega | (simp; done) | (simp; omega))) | ((first | refine (yR _ _ ?_).trans ?_ | refine (yS _ _ ?_).trans ?_ | refine (yT _ ?_).trans ?_ | refine (yU (by assumption) _ ?_).trans ?_); (· (first | omega | (simp; done) | (simp; omega)))) | exact rfl)), rfl⟩)) | (apply yX; (case g => exact ⟨_, by (repeat (first | assumption | ((first | apply yP | apply yQ); (first | omega | (simp; done) | (simp; omega))) | ((first | refine (yR _ _ ?_).trans ?_ | refine (yS _ _ ?_).trans ?_ | refine (yT _ ?_).trans ?_ | refine (yU (by assumption) _ ?_).trans ?_); (· (first | omega | (simp; done) | (simp; omega)))) | exact rfl)), rfl⟩)) | refine Kp.fz ?_ _ | exact yY (by assumption) | refine Kp.trans ?_ (yY (by assumption)))))) | apply yA | apply yB | ((first | apply zA | apply zC | apply zE | apply zG); (· assumption)) | ((first | apply zB | apply zD | apply zF | apply zH); (· assumption)) | apply zM | apply zN | apply zO | apply zP | apply zQ | apply zR | apply zS | apply zT | apply zU | (apply zV; (· omega)) | (apply zW; (· omega)) | (apply zX; (· (first | omega | (dsimp only; omega)))) | (apply zY; (try (apply zY; apply zX; (· omega))); apply zX; (· omega); apply zX; (· (first | omega | (dsimp only; omega)))) | ((first | apply yJ | apply yK | apply yL | apply yM | apply yN | apply yO); (· (repeat (first | assumption | ((first | apply yP | apply yQ); (first | omega | (simp; done) | (simp; omega))) | ((first | refine (yR _ _ ?_).trans ?_ | refine (yS _ _ ?_).trans ?_ | refine (yT _ ?_).trans ?_ | refine (yU (by assumption) _ ?_).trans ?_); (· (first | omega | (simp; done) | (simp; omega)))) | exact rfl))); (· (constructor <;> first | trivial | rfl | exact Nat.le_of_ble_eq_true rfl | ((try dsimp only); (try simp only [List.length_map, List.length_cons, List.length_nil, List.length_append, List.length_set, List.length_replicate, List.length_range]); omega)))) | ((first | apply zA | apply zC | apply zE | apply zG); (· omega)) | ((first | apply zB | apply zD | apply zF | apply zH); (· omega)) | ((first | apply zI | apply zK); (· assumption)) | ((first | apply zJ | apply zL); (· assumption)) | fail)
    conv => whnf
    refine ⟨k + 1, ⟨by omega, by rw [hstep]; exact hfk.1⟩, by omega, weak_of ?_⟩
    show WT _ [undef, iv ((xs.take (k + 1)).foldl f first), fv, undef, undef, undef, undef, undef, undef, .slice _ xs.length cap, iv xs.length, iv ((k + 1 : Nat) : Int), undef, undef, undef, undef, undef, undef, undef, undef, undef]
    rw [hstep]
    repeat' (first | exact WT.nil | refine WT.same ?_ | refine WT.drop ?_ | refine WT.int (by omega) ?_ | refine WT.eq (by assumption) ?_)
  · have hk' : k = xs.length := by omega
    subst hk'
    repeat' ((conv => whnf); first | ((first | (apply yC; (case h => assumption); (case' he => refine ⟨by omega, ?_⟩)) | (apply yD; (case h => assumption); (case' he => refine ⟨by omega, ?_⟩)) | (apply yE; (case h => assumption); (case' he => refine ⟨by omega, by omega, fun hr_ => ?_⟩)) | (apply yF; (case h => assumption); (case' he => refine ⟨by omega, by omega, fun hr_ => ?_⟩)) | (apply yG; (case h => assumption); (case' he => refine ⟨by omega, ?_⟩)) | (apply yH; (case h => assumption); (case' he => refine ⟨by omega, fun hr_ => ?_⟩)) | (apply yI; (case h => assumption); (case' he => refine ⟨by omega, fun hr_ => ?_⟩))); (case hk => first | exact Kp.refl _ | (repeat (first | exact Kp.refl _ | assumption | refine yV ?_ _ | (apply yW; (case g => exact ⟨_, by (repeat (first | assumption | ((first | apply yP | apply yQ); (first | omega | (simp; done) | (simp; omega))) | ((first | refine (yR _ _ ?_).trans ?_ | refine (yS _ _ ?_).trans ?_ | refine (yT _ ?_).trans ?_ | refine (yU (by assumption) _ ?_).trans ?_); (· (first | omega | (simp; done) | (simp; omega)))) | exact rfl)), rfl⟩)) | (apply yX; (case g => exact ⟨_, by (repeat (first | assumption | ((first | apply yP | apply yQ); (first | omega | (simp; done) | (simp; omega))) | ((first | refine (yR _ _ ?_).trans ?_ | refine (yS _ _ ?_).trans ?_ | refine (yT _ ?_).trans ?_ | refine (yU (by assumption) _ ?_).trans ?_); (· (first | omega | (simp; done) | (simp; omega)))) | exact rfl)), rfl⟩)) | refine Kp.fz ?_ _ | exact yY (by assumption) | refine Kp.trans ?_ (yY (by assumption)))))) | apply yA | apply yB | ((first | apply zA | apply zC | apply zE | apply zG); (· assumption)) | ((first | apply zB | apply zD | apply zF | apply zH); (· assumption)) | apply zM | apply zN | apply zO | apply zP | apply zQ | apply zR | apply zS | apply zT | apply zU | (apply zV; (· omega)) | (apply zW; (· omega)) | (apply zX; (· (first | omega | (dsimp only; omega)))) | (apply zY; (try (apply zY; apply zX; (· omega))); apply zX; (· omega); apply zX; (· (first | omega | (dsimp only; omega)))) | ((first | apply yJ | apply yK | apply yL | apply yM | apply yN | apply yO); (· (repeat (first | assumption | ((first | apply yP | apply yQ); (first | omega | (simp; done) | (simp; omega))) | ((first | refine (yR _ _ ?_).trans ?_ | refine (yS _ _ ?_).trans ?_ | refine (yT _ ?_).trans ?_ | refine (yU (by assumption) _ ?_).trans ?_); (· (first | omega | (simp; done) | (simp; omega)))) | exact rfl))); (· (constructor <;> first | trivial | rfl | exact Nat.le_of_ble_eq_true rfl | ((try dsimp only); (try simp only [List.length_map, List.length_cons, List.length_nil, List.length_append, List.length_set, List.length_replicate, List.length_range]); omega)))) | ((first | apply zA | apply zC | apply zE | apply zG); (· omega)) | ((first | apply zB | apply zD | apply zF | apply zH); (· omega)) | ((first | apply zI | apply zK); (· assumption)) | ((first | apply zJ | apply zL); (· assumption)) | fail)
    conv => whnf
    rw [List.take_length]
    exact h

def bad (x : Int) : Bool := !(decide (0 ≤ x) && decide (x ≤ 655360))
theorem bad_not {xs : List Int} (h : xs.any bad = false) {x : Int} (hx : x ∈ xs) : 0 ≤ x ∧ x ≤ 655360 := by
  have := List.any_eq_false.1 h x hx
  simp [bad] at this
  exact this
theorem chain_c {v : Value} {xs : List Int} {H : AHeap} {K : CK} (hx : IsRow H v xs) (hlen : xs.length ≤ 9223372036854775807)
    (h1 : xs.any bad = true → K (.returned (.tuple #[iv 0, iv 7])) H) (h2 : xs.any bad = false → K (.returned (.tuple #[iv (xs.foldl chainStep 65536), iv 0])) H) : callS P (fnV 17) [v] H K := by
  refine callS_walk tt_ok Try.func17 rfl (by kernel_rfl) ?_
  conv => whnf
  refine contains_c (p := bad) hx (fun x _ K hk => odd_c hk) hlen ?_
  conv => whnf
  refine condK_of (fun hp => ?_) (fun hp => ?_)
  · skip
    repeat' ((conv => whnf); first | apply yA | apply yB | ((first | apply zA | apply zC | apply zE | apply zG); (· assumption)) | ((first | apply zB | apply zD | apply zF | apply zH); (· assumption)) | apply zM | apply zN | apply zO | apply zP | apply zQ | apply zR | apply zS | apply zT | apply zU | (apply zV; (· omega)) | (apply zW; (· omega)) | (apply zX; (· (first | omega | (dsimp only; omega)))) | (apply zY; (try (apply zY; apply zX; (· omega))); apply zX; (· omega); apply zX; (· (first | omega | (dsimp only; omega)))) | ((first | apply zA | apply zC | apply zE | apply zG); (· omega)) | ((first | apply zB | apply zD | apply zF | apply zH); (· omega)) | ((first | apply zI | apply zK); (· assumption)) | ((first | apply zJ | apply zL); (· assumption)) | fail)
    conv => whnf
    exact h1 hp
  · skip
    repeat' ((conv => whnf); first | apply yA | apply yB | ((first | apply zA | apply zC | apply zE | apply zG); (· assumption)) | ((first | apply zB | apply zD | apply zF | apply zH); (· assumption)) | apply zM | apply zN | apply zO | apply zP | apply zQ | apply zR | apply zS | apply zT | apply zU | (apply zV; (· omega)) | (apply zW; (· omega)) | (apply zX; (· (first | omega | (dsimp only; omega)))) | (apply zY; (try (apply zY; apply zX; (· omega))); apply zX; (· omega); apply zX; (· (first | omega | (dsimp only; omega)))) | ((first | apply zA | apply zC | apply zE | apply zG); (· omega)) | ((first | apply zB | apply zD | apply zF | apply zH); (· omega)) | ((first | apply zI | apply zK); (· assumption)) | ((first | apply zJ | apply zL); (· assumption)) | fail)
    conv => whnf
    refine folded_c (f := chainStep) (ok := fun a => 0 ≤ a ∧ a ≤ 655360) hx (by omega) (fun a x ha hxm => ⟨chainStep_bd ha (bad_not hp hxm), fun K hk => chain1_c ha (bad_not hp hxm) hk⟩) hlen ?_
    repeat' ((conv => whnf); first | apply yA | apply yB | ((first | apply zA | apply zC | apply zE | apply zG); (· assumption)) | ((first | apply zB | apply zD | apply zF | apply zH); (· assumption)) | apply zM | apply zN | apply zO | apply zP | apply zQ | apply zR | apply zS | apply zT | apply zU | (apply zV; (· omega)) | (apply zW; (· omega)) | (apply zX; (· (first | omega | (dsimp only; omega)))) | (apply zY; (try (apply zY; apply zX; (· omega))); apply zX; (· omega); apply zX; (· (first | omega | (dsimp only; omega)))) | ((first | apply zA | apply zC | apply zE | apply zG); (· omega)) | ((first | apply zB | apply zD | apply zF | apply zH); (· omega)) | ((first | apply zI | apply zK); (· assumption)) | ((first | apply zJ | apply zL); (· assumption)) | fail)
    conv => whnf
    exact h2 hp

theorem gain_c {n : Int} {H : AHeap} {K : CK} (h : K (.returned (.bool (!bad n))) H) : callS P (fnV 50) [iv n] H K := by
  refine callS_walk tt_ok Try.func50 rfl (by kernel_rfl) ?_
  conv => whnf
  by_cases h1 : 0 ≤ n
  · skip
    repeat' ((conv => whnf); first | (apply drawS_auto mixed tt_ok; (· kernel_rfl)) | apply zZ | apply yA | apply yB | ((first | apply zA | apply zC | apply zE | apply zG); (· assumption)) | ((first | apply zB | apply zD | apply zF | apply zH); (· assumption)) | apply zM | apply zN | apply zO | apply zP | apply zQ | apply zR | apply zS | apply zT | apply zU | (apply zV; (· omega)) | (apply zW; (· omega)) | (apply zX; (· (first | omega | (dsimp only; omega)))) | (apply zY; (try (apply zY; apply zX; (· omega))); apply zX; (· omega); apply zX; (· (first | omega | (dsimp only; omega)))) | ((first | apply zA | apply zC | apply zE | apply zG); (· omega)) | ((first | apply zB | apply zD | apply zF | apply zH); (· omega)) | ((first | apply zI | apply zK); (· assumption)) | ((first | apply zJ | apply zL); (· assumption)) | fail)
    conv => whnf
    simpa [bad, h1] using h
  · skip
    repeat' ((conv => whnf); first | (apply drawS_auto mixed tt_ok; (· kernel_rfl)) | apply zZ | apply yA | apply yB | ((first | apply zA | apply zC | apply zE | apply zG); (· assumption)) | ((first | apply zB | apply zD | apply zF | apply zH); (· assumption)) | apply zM | apply zN | apply zO | apply zP | apply zQ | apply zR | apply zS | apply zT | apply zU | (apply zV; (· omega)) | (apply zW; (· omega)) | (apply zX; (· (first | omega | (dsimp only; omega)))) | (apply zY; (try (apply zY; apply zX; (· omega))); apply zX; (· omega); apply zX; (· (first | omega | (dsimp only; omega)))) | ((first | apply zA | apply zC | apply zE | apply zG); (· omega)) | ((first | apply zB | apply zD | apply zF | apply zH); (· omega)) | ((first | apply zI | apply zK); (· assumption)) | ((first | apply zJ | apply zL); (· assumption)) | fail)
    conv => whnf
    simpa [bad, h1] using h
def rnd2 (a n : Int) : Int := if n - a.tmod n ≤ a.tmod n then a.tdiv n + 1 else a.tdiv n
theorem rounded2_pos {a n : Int} (ha : 0 ≤ a ∧ a ≤ 4611686018427387904) (hn : 0 < n ∧ n ≤ 4611686018427387904) {H : AHeap} {K : CK} (h : K (.returned (iv (rnd2 a n))) H) : callS P (fnV 61) [iv a, iv n] H K := by
  have hd : 0 ≤ a.tdiv n ∧ a.tdiv n ≤ a := by
    rw [Int.tdiv_eq_ediv_of_nonneg ha.1]
    exact ⟨Int.ediv_nonneg ha.1 (by omega), Int.ediv_le_self _ ha.1⟩
  have hm : 0 ≤ a.tmod n ∧ a.tmod n < n := ⟨Int.tmod_nonneg _ ha.1, Int.tmod_lt_of_pos _ hn.1⟩
  have h1 : ¬ a < 0 := by omega
  unfold rnd2 at h
  refine callS_walk tt_ok Try.func61 rfl (by kernel_rfl) ?_
  conv => whnf
  by_cases h2 : n - a.tmod n ≤ a.tmod n
  · rw [if_pos h2] at h
    repeat' ((conv => whnf); first | (apply drawS_auto mixed tt_ok; (· kernel_rfl)) | apply zZ | apply yA | apply yB | ((first | apply zA | apply zC | apply zE | apply zG); (· assumption)) | ((first | apply zB | apply zD | apply zF | apply zH); (· assumption)) | apply zM | apply zN | apply zO | apply zP | apply zQ | apply zR | apply zS | apply zT | apply zU | (apply zV; (· omega)) | (apply zW; (· omega)) | (apply zX; (· (first | omega | (dsimp only; omega)))) | (apply zY; (try (apply zY; apply zX; (· omega))); apply zX; (· omega); apply zX; (· (first | omega | (dsimp only; omega)))) | ((first | apply zA | apply zC | apply zE | apply zG); (· omega)) | ((first | apply zB | apply zD | apply zF | apply zH); (· omega)) | ((first | apply zI | apply zK); (· assumption)) | ((first | apply zJ | apply zL); (· assumption)) | fail)
    conv => whnf
    exact h
  · rw [if_neg h2] at h
    repeat' ((conv => whnf); first | (apply drawS_auto mixed tt_ok; (· kernel_rfl)) | apply zZ | apply yA | apply yB | ((first | apply zA | apply zC | apply zE | apply zG); (· assumption)) | ((first | apply zB | apply zD | apply zF | apply zH); (· assumption)) | apply zM | apply zN | apply zO | apply zP | apply zQ | apply zR | apply zS | apply zT | apply zU | (apply zV; (· omega)) | (apply zW; (· omega)) | (apply zX; (· (first | omega | (dsimp only; omega)))) | (apply zY; (try (apply zY; apply zX; (· omega))); apply zX; (· omega); apply zX; (· (first | omega | (dsimp only; omega)))) | ((first | apply zA | apply zC | apply zE | apply zG); (· omega)) | ((first | apply zB | apply zD | apply zF | apply zH); (· omega)) | ((first | apply zI | apply zK); (· assumption)) | ((first | apply zJ | apply zL); (· assumption)) | fail)
    conv => whnf
    exact h

theorem rounded2_neg {a n : Int} (ha : -4611686018427387904 ≤ a ∧ a < 0) (hn : 0 < n ∧ n ≤ 4611686018427387904) {H : AHeap} {K : CK} (h : K (.returned (iv (0 - rnd2 (0 - a) n))) H) : callS P (fnV 61) [iv a, iv n] H K := by
  have hd : 0 ≤ (0 - a).tdiv n ∧ (0 - a).tdiv n ≤ 0 - a := by
    rw [Int.tdiv_eq_ediv_of_nonneg (by omega)]
    exact ⟨Int.ediv_nonneg (by omega) (by omega), Int.ediv_le_self _ (by omega)⟩
  have hr : 0 ≤ rnd2 (0 - a) n ∧ rnd2 (0 - a) n ≤ 0 - a + 1 := by
    unfold rnd2
    split <;> omega
  have h1 : a < 0 := by omega
  refine callS_walk tt_ok Try.func61 rfl (by kernel_rfl) ?_
  conv => whnf
  repeat' ((conv => whnf); first | (apply drawS_auto mixed tt_ok; (· kernel_rfl)) | apply zZ | apply yA | apply yB | ((first | apply zA | apply zC | apply zE | apply zG); (· assumption)) | ((first | apply zB | apply zD | apply zF | apply zH); (· assumption)) | apply zM | apply zN | apply zO | apply zP | apply zQ | apply zR | apply zS | apply zT | apply zU | (apply zV; (· omega)) | (apply zW; (· omega)) | (apply zX; (· (first | omega | (dsimp only; omega)))) | (apply zY; (try (apply zY; apply zX; (· omega))); apply zX; (· omega); apply zX; (· (first | omega | (dsimp only; omega)))) | ((first | apply zA | apply zC | apply zE | apply zG); (· omega)) | ((first | apply zB | apply zD | apply zF | apply zH); (· omega)) | ((first | apply zI | apply zK); (· assumption)) | ((first | apply zJ | apply zL); (· assumption)) | fail)
  conv => whnf
  refine rounded2_pos (by omega) (by omega) ?_
  repeat' ((conv => whnf); first | (apply drawS_auto mixed tt_ok; (· kernel_rfl)) | apply zZ | apply yA | apply yB | ((first | apply zA | apply zC | apply zE | apply zG); (· assumption)) | ((first | apply zB | apply zD | apply zF | apply zH); (· assumption)) | apply zM | apply zN | apply zO | apply zP | apply zQ | apply zR | apply zS | apply zT | apply zU | (apply zV; (· omega)) | (apply zW; (· omega)) | (apply zX; (· (first | omega | (dsimp only; omega)))) | (apply zY; (try (apply zY; apply zX; (· omega))); apply zX; (· omega); apply zX; (· (first | omega | (dsimp only; omega)))) | ((first | apply zA | apply zC | apply zE | apply zG); (· omega)) | ((first | apply zB | apply zD | apply zF | apply zH); (· omega)) | ((first | apply zI | apply zK); (· assumption)) | ((first | apply zJ | apply zL); (· assumption)) | fail)
  conv => whnf
  exact h
def refStep (n x : Int) : Int := min (rnd2 (n * x) 65536) 655360

theorem rnd2_pos {a : Int} (h : 0 ≤ a) : rnd2 a 65536 = (a + 32768) / 65536 := by
  unfold rnd2
  rw [Int.tdiv_eq_ediv_of_nonneg h, Int.tmod_eq_emod_of_nonneg h]
  split <;> omega
theorem refStep_bd {a b : Int} (ha : 0 ≤ a ∧ a ≤ 655360) (hb : 0 ≤ b ∧ b ≤ 655360) : 0 ≤ refStep a b ∧ refStep a b ≤ 655360 := by
  have h0 : 0 ≤ a * b := Int.mul_nonneg ha.1 hb.1
  unfold refStep
  rw [rnd2_pos h0]
  have : 0 ≤ (a * b + 32768) / 65536 := Int.ediv_nonneg (by omega) (by omega)
  omega
theorem step_eq {a b : Int} (ha : 0 ≤ a ∧ a ≤ 655360) (hb : 0 ≤ b ∧ b ≤ 655360) : refStep a b = chainStep a b := by
  have h0 : 0 ≤ a * b := Int.mul_nonneg ha.1 hb.1
  unfold refStep chainStep
  rw [rnd2_pos h0, rnd_pos h0]
  have : 0 ≤ (a * b + 32768) / 65536 := Int.ediv_nonneg (by omega) (by omega)
  omega
theorem refChain_c {v : Value} {xs : List Int} {H : AHeap} {K : CK} (hx : IsRow H v xs) (hlen : xs.length ≤ 9223372036854775807)
    (h1 : xs.any bad = true → K (.returned (.tuple #[iv 0, iv 7])) H) (h2 : xs.any bad = false → K (.returned (.tuple #[iv (xs.foldl refStep 65536), iv 0])) H) : callS P (fnV 18) [v] H K := by
  obtain ⟨hr, hx⟩ := hx
  have hl : ∃ a cap, v = .slice a xs.length cap := by
    rcases hx with ⟨rfl, rfl⟩ | ⟨i, off, cap, c, own, sz, rfl, _⟩
    · exact ⟨_, _, rfl⟩
    · exact ⟨_, _, rfl⟩
  obtain ⟨a, cap, rfl⟩ := hl
  refine callS_walk tt_ok Try.func18 rfl (by kernel_rfl) ?_
  conv => whnf
  let S : Nat → St := fun k => ⟨[.slice a xs.length cap, undef, undef, undef, iv ((xs.take k).foldl refStep 65536), iv k, undef, undef, undef, undef, undef, undef, undef, undef, undef, undef, undef, undef, undef, undef, undef, undef, undef, undef, undef, undef, undef], [], .run, H⟩
  refine loopS_weak (s' := S 0) (weak_of ?_) ?_
  · skip
    repeat' (first | exact WT.nil | refine WT.same ?_ | refine WT.drop ?_ | refine WT.int (by omega) ?_ | refine WT.eq (by assumption) ?_)
  refine loopS_ix (ι := Nat) tt_ok S (fun k => k ≤ xs.length ∧ (xs.take k).any bad = false ∧ 0 ≤ (xs.take k).foldl refStep 65536 ∧ (xs.take k).foldl refStep 65536 ≤ 655360) (fun k => xs.length - k) (fun k hk => ?_) 0 ⟨by omega, by simp, by simp⟩
  obtain ⟨hk, hany, hok⟩ := hk
  by_cases hlt : (k : Int) < (xs.length : Int)
  · have hk' : k < xs.length := by omega
    obtain ⟨i, off, cap', c, own, sz, e1, hget, hcells⟩ : ∃ i off cap' c own sz, Value.slice a xs.length cap = .slice (some ⟨i, off, none⟩) xs.length cap' ∧ H.get i = some (.cells c own sz) ∧ ∀ (k : Nat) x, xs[k]? = some x → c[off + k]? = some (iv x) := by
      rcases hx with ⟨e, rfl⟩ | hx
      · simp at hk'
      · exact hx
    injection e1 with e2 e3 e4
    subst e2 e4
    have hxk : xs[k]? = some xs[k] := by simp
    have hc := hcells k _ hxk
    repeat' ((conv => whnf); first | ((first | (apply yC; (case h => assumption); (case' he => refine ⟨by omega, ?_⟩)) | (apply yD; (case h => assumption); (case' he => refine ⟨by omega, ?_⟩)) | (apply yE; (case h => assumption); (case' he => refine ⟨by omega, by omega, fun hr_ => ?_⟩)) | (apply yF; (case h => assumption); (case' he => refine ⟨by omega, by omega, fun hr_ => ?_⟩)) | (apply yG; (case h => assumption); (case' he => refine ⟨by omega, ?_⟩)) | (apply yH; (case h => assumption); (case' he => refine ⟨by omega, fun hr_ => ?_⟩)) | (apply yI; (case h => assumption); (case' he => refine ⟨by omega, fun hr_ => ?_⟩))); (case hk => first | exact Kp.refl _ | (repeat (first | exact Kp.refl _ | assumption | refine yV ?_ _ | (apply yW; (case g => exact ⟨_, by (repeat (first | assumption | ((first | apply yP | apply yQ); (first | omega | (simp; done) | (simp; omega))) | ((first | refine (yR _ _ ?_).trans ?_ | refine (yS _ _ ?_).trans ?_ | refine (yT _ ?_).trans ?_ | refine (yU (by assumption) _ ?_).trans ?_); (· (first | omega | (simp; done) | (simp; omega)))) | exact rfl)), rfl⟩)) | (apply yX; (case g => exact ⟨_, by (repeat (first | assumption | ((first | apply yP | apply yQ); (first | omega | (simp; done) | (simp; omega))) | ((first | refine (yR _ _ ?_).trans ?_ | refine (yS _ _ ?_).trans ?_ | refine (yT _ ?_).trans ?_ | refine (yU (by assumption) _ ?_).trans ?_); (· (first | omega | (simp; done) | (simp; omega)))) | exact rfl)), rfl⟩)) | refine Kp.fz ?_ _ | exact yY (by assumption) | refine Kp.trans ?_ (yY (by assumption)))))) | apply yA | apply yB | ((first | apply zA | apply zC | apply zE | apply zG); (· assumption)) | ((first | apply zB | apply zD | apply zF | apply zH); (· assumption)) | apply zM | apply zN | apply zO | apply zP | apply zQ | apply zR | apply zS | apply zT | apply zU | (apply zV; (· omega)) | (apply zW; (· omega)) | (apply zX; (· (first | omega | (dsimp only; omega)))) | (apply zY; (try (apply zY; apply zX; (· omega))); apply zX; (· omega); apply zX; (· (first | omega | (dsimp only; omega)))) | ((first | apply yJ | apply yK | apply yL | apply yM | apply yN | apply yO); (· (repeat (first | assumption | ((first | apply yP | apply yQ); (first | omega | (simp; done) | (simp; omega))) | ((first | refine (yR _ _ ?_).trans ?_ | refine (yS _ _ ?_).trans ?_ | refine (yT _ ?_).trans ?_ | refine (yU (by assumption) _ ?_).trans ?_); (· (first | omega | (simp; done) | (simp; omega)))) | exact rfl))); (· (constructor <;> first | trivial | rfl | exact Nat.le_of_ble_eq_true rfl | ((try dsimp only); (try simp only [List.length_map, List.length_cons, List.length_nil, List.length_append, List.length_set, List.length_replicate, List.length_range]); omega)))) | ((first | apply zA | apply zC | apply zE | apply zG); (· omega)) | ((first | apply zB | apply zD | apply zF | apply zH); (· omega)) | ((first | apply zI | apply zK); (· assumption)) | ((first | apply zJ | apply zL); (· assumption)) | fail)
    conv => whnf
    refine loadK_get hget (v := iv xs[k]) (by simpa using hc) ?_
    conv => whnf
    refine gain_c ?_
    conv => whnf
    refine condK_not (condK_not (condK_of (fun hp => ?_) (fun hp => ?_)))
    · skip
      repeat' ((conv => whnf); first | ((first | (apply yC; (case h => assumption); (case' he => refine ⟨by omega, ?_⟩)) | (apply yD; (case h => assumption); (case' he => refine ⟨by omega, ?_⟩)) | (apply yE; (case h => assumption); (case' he => refine ⟨by omega, by omega, fun hr_ => ?_⟩)) | (apply yF; (case h => assumption); (case' he => refine ⟨by omega, by omega, fun hr_ => ?_⟩)) | (apply yG; (case h => assumption); (case' he => refine ⟨by omega, ?_⟩)) | (apply yH; (case h => assumption); (case' he => refine ⟨by omega, fun hr_ => ?_⟩)) | (apply yI; (case h => assumption); (case' he => refine ⟨by omega, fun hr_ => ?_⟩))); (case hk => first | exact Kp.refl _ | (repeat (first | exact Kp.refl _ | assumption | refine yV ?_ _ | (apply yW; (case g => exact ⟨_, by (repeat (first | assumption | ((first | apply yP | apply yQ); (first | omega | (simp; done) | (simp; omega))) | ((first | refine (yR _ _ ?_).trans ?_ | refine (yS _ _ ?_).trans ?_ | refine (yT _ ?_).trans ?_ | refine (yU (by assumption) _ ?_).trans ?_); (· (first | omega | (simp; done) | (simp; omega)))) | exact rfl)), rfl⟩)) | (apply yX; (case g => exact ⟨_, by (repeat (first | assumption | ((first | apply yP | apply yQ); (first | omega | (simp; done) | (simp; omega))) | ((first | refine (yR _ _ ?_).trans ?_ | refine (yS _ _ ?_).trans ?_ | refine (yT _ ?_).trans ?_ | refine (yU (by assumption) _ ?_).trans ?_); (· (first | omega | (simp; done) | (simp; omega)))) | exact rfl)), rfl⟩)) | refine Kp.fz ?_ _ | exact yY (by assumption) | refine Kp.trans ?_ (yY (by assumption)))))) | apply yA | apply yB | ((first | apply zA | apply zC | apply zE | apply zG); (· assumption)) | ((first | apply zB | apply zD | apply zF | apply zH); (· assumption)) | apply zM | apply zN | apply zO | apply zP | apply zQ | apply zR | apply zS | apply zT | apply zU | (apply zV; (· omega)) | (apply zW; (· omega)) | (apply zX; (· (first | omega | (dsimp only; omega)))) | (apply zY; (try (apply zY; apply zX; (· omega))); apply zX; (· omega); apply zX; (· (first | omega | (dsimp only; omega)))) | ((first | apply yJ | apply yK | apply yL | apply yM | apply yN | apply yO); (· (repeat (first | assumption | ((first | apply yP | apply yQ); (first | omega | (simp; done) | (simp; omega))) | ((first | refine (yR _ _ ?_).trans ?_ | refine (yS _ _ ?_).trans ?_ | refine (yT _ ?_).trans ?_ | refine (yU (by assumption) _ ?_).trans ?_); (· (first | omega | (simp; done) | (simp; omega)))) | exact rfl))); (· (constructor <;> first | trivial | rfl | exact Nat.le_of_ble_eq_true rfl | ((try dsimp only); (try simp only [List.length_map, List.length_cons, List.length_nil, List.length_append, List.length_set, List.length_replicate, List.length_range]); omega)))) | ((first | apply zA | apply zC | apply zE | apply zG); (· omega)) | ((first | apply zB | apply zD | apply zF | apply zH); (· omega)) | ((first | apply zI | apply zK); (· assumption)) | ((first | apply zJ | apply zL); (· assumption)) | fail)
      conv => whnf
      exact h1 (List.any_eq_true.2 ⟨xs[k], List.getElem_mem _, hp⟩)
    · have hb : 0 ≤ xs[k] ∧ xs[k] ≤ 655360 := by simpa [bad] using hp
      have h0 : 0 ≤ (xs.take k).foldl refStep 65536 * xs[k] := Int.mul_nonneg hok.1 hb.1
      have h3 : (xs.take k).foldl refStep 65536 * xs[k] ≤ 655360 * 655360 := Int.mul_le_mul hok.2 hb.2 hb.1 (by omega)
      have hstep : (xs.take (k + 1)).foldl refStep 65536 = refStep ((xs.take k).foldl refStep 65536) xs[k] := by
        rw [List.take_add_one, List.foldl_append, hxk]
        rfl
      repeat' ((conv => whnf); first | ((first | (apply yC; (case h => assumption); (case' he => refine ⟨by omega, ?_⟩)) | (apply yD; (case h => assumption); (case' he => refine ⟨by omega, ?_⟩)) | (apply yE; (case h => assumption); (case' he => refine ⟨by omega, by omega, fun hr_ => ?_⟩)) | (apply yF; (case h => assumption); (case' he => refine ⟨by omega, by omega, fun hr_ => ?_⟩)) | (apply yG; (case h => assumption); (case' he => refine ⟨by omega, ?_⟩)) | (apply yH; (case h => assumption); (case' he => refine ⟨by omega, fun hr_ => ?_⟩)) | (apply yI; (case h => assumption); (case' he => refine ⟨by omega, fun hr_ => ?_⟩))); (case hk => first | exact Kp.refl _ | (repeat (first | exact Kp.refl _ | assumption | refine yV ?_ _ | (apply yW; (case g => exact ⟨_, by (repeat (first | assumption | ((first | apply yP | apply yQ); (first | omega | (simp; done) | (simp; omega))) | ((first | refine (yR _ _ ?_).trans ?_ | refine (yS _ _ ?_).trans ?_ | refine (yT _ ?_).trans ?_ | refine (yU (by assumption) _ ?_).trans ?_); (· (first | omega | (simp; done) | (simp; omega)))) | exact rfl)), rfl⟩)) | (apply yX; (case g => exact ⟨_, by (repeat (first | assumption | ((first | apply yP | apply yQ); (first | omega | (simp; done) | (simp; omega))) | ((first | refine (yR _ _ ?_).trans ?_ | refine (yS _ _ ?_).trans ?_ | refine (yT _ ?_).trans ?_ | refine (yU (by assumption) _ ?_).trans ?_); (· (first | omega | (simp; done) | (simp; omega)))) | exact rfl)), rfl⟩)) | refine Kp.fz ?_ _ | exact yY (by assumption) | refine Kp.trans ?_ (yY (by assumption)))))) | apply yA | apply yB | ((first | apply zA | apply zC | apply zE | apply zG); (· assumption)) | ((first | apply zB | apply zD | apply zF | apply zH); (· assumption)) | apply zM | apply zN | apply zO | apply zP | apply zQ | apply zR | apply zS | apply zT | apply zU | (apply zV; (· omega)) | (apply zW; (· omega)) | (apply zX; (· (first | omega | (dsimp only; omega)))) | (apply zY; (try (apply zY; apply zX; (· omega))); apply zX; (· omega); apply zX; (· (first | omega | (dsimp only; omega)))) | ((first | apply yJ | apply yK | apply yL | apply yM | apply yN | apply yO); (· (repeat (first | assumption | ((first | apply yP | apply yQ); (first | omega | (simp; done) | (simp; omega))) | ((first | refine (yR _ _ ?_).trans ?_ | refine (yS _ _ ?_).trans ?_ | refine (yT _ ?_).trans ?_ | refine (yU (by assumption) _ ?_).trans ?_); (· (first | omega | (simp; done) | (simp; omega)))) | exact rfl))); (· (constructor <;> first | trivial | rfl | exact Nat.le_of_ble_eq_true rfl | ((try dsimp only); (try simp only [List.length_map, List.length_cons, List.length_nil, List.length_append, List.length_set, List.length_replicate, List.length_range]); omega)))) | ((first | apply zA | apply zC | apply zE | apply zG); (· omega)) | ((first | apply zB | apply zD | apply zF | apply zH); (· omega)) | ((first | apply zI | apply zK); (· assumption)) | ((first | apply zJ | apply zL); (· assumption)) | fail)
      conv => whnf
      refine loadK_get hget (v := iv xs[k]) (by simpa using hc) ?_
      repeat' ((conv => whnf); first | ((first | (apply yC; (case h => assumption); (case' he => refine ⟨by omega, ?_⟩)) | (apply yD; (case h => assumption); (case' he => refine ⟨by omega, ?_⟩)) | (apply yE; (case h => assumption); (case' he => refine ⟨by omega, by omega, fun hr_ => ?_⟩)) | (apply yF; (case h => assumption); (case' he => refine ⟨by omega, by omega, fun hr_ => ?_⟩)) | (apply yG; (case h => assumption); (case' he => refine ⟨by omega, ?_⟩)) | (apply yH; (case h => assumption); (case' he => refine ⟨by omega, fun hr_ => ?_⟩)) | (apply yI; (case h => assumption); (case' he => refine ⟨by omega, fun hr_ => ?_⟩))); (case hk => first | exact Kp.refl _ | (repeat (first | exact Kp.refl _ | assumption | refine yV ?_ _ | (apply yW; (case g => exact ⟨_, by (repeat (first | assumption | ((first | apply yP | apply yQ); (first | omega | (simp; done) | (simp; omega))) | ((first | refine (yR _ _ ?_).trans ?_ | refine (yS _ _ ?_).trans ?_ | refine (yT _ ?_).trans ?_ | refine (yU (by assumption) _ ?_).trans ?_); (· (first | omega | (simp; done) | (simp; omega)))) | exact rfl)), rfl⟩)) | (apply yX; (case g => exact ⟨_, by (repeat (first | assumption | ((first | apply yP | apply yQ); (first | omega | (simp; done) | (simp; omega))) | ((first | refine (yR _ _ ?_).trans ?_ | refine (yS _ _ ?_).trans ?_ | refine (yT _ ?_).trans ?_ | refine (yU (by assumption) _ ?_).trans ?_); (· (first | omega | (simp; done) | (simp; omega)))) | exact rfl)), rfl⟩)) | refine Kp.fz ?_ _ | exact yY (by assumption) | refine Kp.trans ?_ (yY (by assumption)))))) | apply yA | apply yB | ((first | apply zA | apply zC | apply zE | apply zG); (· assumption)) | ((first | apply zB | apply zD | apply zF | apply zH); (· assumption)) | apply zM | apply zN | apply zO | apply zP | apply zQ | apply zR | apply zS | apply zT | apply zU | (apply zV; (· omega)) | (apply zW; (· omega)) | (apply zX; (· (first | omega | (dsimp only; omega)))) | (apply zY; (try (apply zY; apply zX; (· omega))); apply zX; (· omega); apply zX; (· (first | omega | (dsimp only; omega)))) | ((first | apply yJ | apply yK | apply yL | apply yM | apply yN | apply yO); (· (repeat (first | assumption | ((first | apply yP | apply yQ); (first | omega | (simp; done) | (simp; omega))) | ((first | refine (yR _ _ ?_).trans ?_ | refine (yS _ _ ?_).trans ?_ | refine (yT _ ?_).trans ?_ | refine (yU (by assumption) _ ?_).trans ?_); (· (first | omega | (simp; done) | (simp; omega)))) | exact rfl))); (· (constructor <;> first | trivial | rfl | exact Nat.le_of_ble_eq_true rfl | ((try dsimp only); (try simp only [List.length_map, List.length_cons, List.length_nil, List.length_append, List.length_set, List.length_replicate, List.length_range]); omega)))) | ((first | apply zA | apply zC | apply zE | apply zG); (· omega)) | ((first | apply zB | apply zD | apply zF | apply zH); (· omega)) | ((first | apply zI | apply zK); (· assumption)) | ((first | apply zJ | apply zL); (· assumption)) | fail)
      conv => whnf
      refine rounded2_pos (by omega) (by omega) ?_
      repeat' ((conv => whnf); first | ((first | (apply yC; (case h => assumption); (case' he => refine ⟨by omega, ?_⟩)) | (apply yD; (case h => assumption); (case' he => refine ⟨by omega, ?_⟩)) | (apply yE; (case h => assumption); (case' he => refine ⟨by omega, by omega, fun hr_ => ?_⟩)) | (apply yF; (case h => assumption); (case' he => refine ⟨by omega, by omega, fun hr_ => ?_⟩)) | (apply yG; (case h => assumption); (case' he => refine ⟨by omega, ?_⟩)) | (apply yH; (case h => assumption); (case' he => refine ⟨by omega, fun hr_ => ?_⟩)) | (apply yI; (case h => assumption); (case' he => refine ⟨by omega, fun hr_ => ?_⟩))); (case hk => first | exact Kp.refl _ | (repeat (first | exact Kp.refl _ | assumption | refine yV ?_ _ | (apply yW; (case g => exact ⟨_, by (repeat (first | assumption | ((first | apply yP | apply yQ); (first | omega | (simp; done) | (simp; omega))) | ((first | refine (yR _ _ ?_).trans ?_ | refine (yS _ _ ?_).trans ?_ | refine (yT _ ?_).trans ?_ | refine (yU (by assumption) _ ?_).trans ?_); (· (first | omega | (simp; done) | (simp; omega)))) | exact rfl)), rfl⟩)) | (apply yX; (case g => exact ⟨_, by (repeat (first | assumption | ((first | apply yP | apply yQ); (first | omega | (simp; done) | (simp; omega))) | ((first | refine (yR _ _ ?_).trans ?_ | refine (yS _ _ ?_).trans ?_ | refine (yT _ ?_).trans ?_ | refine (yU (by assumption) _ ?_).trans ?_); (· (first | omega | (simp; done) | (simp; omega)))) | exact rfl)), rfl⟩)) | refine Kp.fz ?_ _ | exact yY (by assumption) | refine Kp.trans ?_ (yY (by assumption)))))) | apply yA | apply yB | ((first | apply zA | apply zC | apply zE | apply zG); (· assumption)) | ((first | apply zB | apply zD | apply zF | apply zH); (· assumption)) | apply zM | apply zN | apply zO | apply zP | apply zQ | apply zR | apply zS | apply zT | apply zU | (apply zV; (· omega)) | (apply zW; (· omega)) | (apply zX; (· (first | omega | (dsimp only; omega)))) | (apply zY; (try (apply zY; apply zX; (· omega))); apply zX; (· omega); apply zX; (· (first | omega | (dsimp only; omega)))) | ((first | apply yJ | apply yK | apply yL | apply yM | apply yN | apply yO); (· (repeat (first | assumption | ((first | apply yP | apply yQ); (first | omega | (simp; done) | (simp; omega))) | ((first | refine (yR _ _ ?_).trans ?_ | refine (yS _ _ ?_).trans ?_ | refine (yT _ ?_).trans ?_ | refine (yU (by assumption) _ ?_).trans ?_); (· (first | omega | (simp; done) | (simp; omega)))) | exact rfl))); (· (constructor <;> first | trivial | rfl | exact Nat.le_of_ble_eq_true rfl | ((try dsimp only); (try simp only [List.length_map, List.length_cons, List.length_nil, List.length_append, List.length_set, List.length_replicate, List.length_range]); omega)))) | ((first | apply zA | apply zC | apply zE | apply zG); (· omega)) | ((first | apply zB | apply zD | apply zF | apply zH); (· omega)) | ((first | apply zI | apply zK); (· assumption)) | ((first | apply zJ | apply zL); (· assumption)) | fail)
      conv => whnf
      refine ⟨k + 1, ⟨by omega, ?_, by rw [hstep]; exact refStep_bd hok hb⟩, by omega, weak_of ?_⟩
      · rw [List.take_add_one, List.any_append, hany, hxk]
        simp [hp]
      · show WT _ [.slice _ xs.length cap, undef, undef, undef, iv ((xs.take (k + 1)).foldl refStep 65536), iv ((k + 1 : Nat) : Int), undef, undef, undef, undef, undef, undef, undef, undef, undef, undef, undef, undef, undef, undef, undef, undef, undef, undef, undef, undef, undef]
        rw [hstep]
        unfold refStep
        repeat' (first | exact WT.nil | refine WT.same ?_ | refine WT.drop ?_ | refine WT.int (by omega) ?_ | refine WT.eq (by assumption) ?_)
  · have hk' : k = xs.length := by omega
    subst hk'
    repeat' ((conv => whnf); first | ((first | (apply yC; (case h => assumption); (case' he => refine ⟨by omega, ?_⟩)) | (apply yD; (case h => assumption); (case' he => refine ⟨by omega, ?_⟩)) | (apply yE; (case h => assumption); (case' he => refine ⟨by omega, by omega, fun hr_ => ?_⟩)) | (apply yF; (case h => assumption); (case' he => refine ⟨by omega, by omega, fun hr_ => ?_⟩)) | (apply yG; (case h => assumption); (case' he => refine ⟨by omega, ?_⟩)) | (apply yH; (case h => assumption); (case' he => refine ⟨by omega, fun hr_ => ?_⟩)) | (apply yI; (case h => assumption); (case' he => refine ⟨by omega, fun hr_ => ?_⟩))); (case hk => first | exact Kp.refl _ | (repeat (first | exact Kp.refl _ | assumption | refine yV ?_ _ | (apply yW; (case g => exact ⟨_, by (repeat (first | assumption | ((first | apply yP | apply yQ); (first | omega | (simp; done) | (simp; omega))) | ((first | refine (yR _ _ ?_).trans ?_ | refine (yS _ _ ?_).trans ?_ | refine (yT _ ?_).trans ?_ | refine (yU (by assumption) _ ?_).trans ?_); (· (first | omega | (simp; done) | (simp; omega)))) | exact rfl)), rfl⟩)) | (apply yX; (case g => exact ⟨_, by (repeat (first | assumption | ((first | apply yP | apply yQ); (first | omega | (simp; done) | (simp; omega))) | ((first | refine (yR _ _ ?_).trans ?_ | refine (yS _ _ ?_).trans ?_ | refine (yT _ ?_).trans ?_ | refine (yU (by assumption) _ ?_).trans ?_); (· (first | omega | (simp; done) | (simp; omega)))) | exact rfl)), rfl⟩)) | refine Kp.fz ?_ _ | exact yY (by assumption) | refine Kp.trans ?_ (yY (by assumption)))))) | apply yA | apply yB | ((first | apply zA | apply zC | apply zE | apply zG); (· assumption)) | ((first | apply zB | apply zD | apply zF | apply zH); (· assumption)) | apply zM | apply zN | apply zO | apply zP | apply zQ | apply zR | apply zS | apply zT | apply zU | (apply zV; (· omega)) | (apply zW; (· omega)) | (apply zX; (· (first | omega | (dsimp only; omega)))) | (apply zY; (try (apply zY; apply zX; (· omega))); apply zX; (· omega); apply zX; (· (first | omega | (dsimp only; omega)))) | ((first | apply yJ | apply yK | apply yL | apply yM | apply yN | apply yO); (· (repeat (first | assumption | ((first | apply yP | apply yQ); (first | omega | (simp; done) | (simp; omega))) | ((first | refine (yR _ _ ?_).trans ?_ | refine (yS _ _ ?_).trans ?_ | refine (yT _ ?_).trans ?_ | refine (yU (by assumption) _ ?_).trans ?_); (· (first | omega | (simp; done) | (simp; omega)))) | exact rfl))); (· (constructor <;> first | trivial | rfl | exact Nat.le_of_ble_eq_true rfl | ((try dsimp only); (try simp only [List.length_map, List.length_cons, List.length_nil, List.length_append, List.length_set, List.length_replicate, List.length_range]); omega)))) | ((first | apply zA | apply zC | apply zE | apply zG); (· omega)) | ((first | apply zB | apply zD | apply zF | apply zH); (· omega)) | ((first | apply zI | apply zK); (· assumption)) | ((first | apply zJ | apply zL); (· assumption)) | fail)
    conv => whnf
    rw [List.take_length] at hany ⊢
    exact h2 hany

theorem folds_eq : ∀ (xs : List Int) (a : Int), 0 ≤ a ∧ a ≤ 655360 → xs.any bad = false → xs.foldl refStep a = xs.foldl chainStep a
  | [], _, _, _ => rfl
  | x :: xs, a, ha, h => by
    have hx : 0 ≤ x ∧ x ≤ 655360 := bad_not h (by simp)
    have h' : xs.any bad = false := by
      simp only [List.any_cons, Bool.or_eq_false_iff] at h
      exact h.2
    rw [List.foldl_cons, List.foldl_cons, step_eq ha hx]
    exact folds_eq xs _ (chainStep_bd ha hx) h'
theorem within_c' {n lo hi : Int} {H : AHeap} {K : CK} (h1 : lo ≤ n ∧ n ≤ hi → K (.returned (.bool true)) H) (h2 : ¬(lo ≤ n ∧ n ≤ hi) → K (.returned (.bool false)) H) : callS P (fnV 48) [iv n, iv lo, iv hi] H K := by
  refine within_c ?_
  by_cases h : lo ≤ n ∧ n ≤ hi
  · have := h1 h; simpa [h.1, h.2] using this
  · have := h2 h
    have e : (decide (lo ≤ n) && decide (n ≤ hi)) = false := by
      cases hb : (decide (lo ≤ n) && decide (n ≤ hi)) with
      | false => rfl
      | true => simp at hb; exact absurd hb h
    rw [e]; exact this

def cub (n : Int) : Int := (n * n * n * 65536 + 500000) / 1000000
theorem cub_bd {n : Int} (h : 0 ≤ n ∧ n ≤ 200) : (0 ≤ n * n ∧ n * n ≤ 40000) ∧ (0 ≤ n * n * n ∧ n * n * n ≤ 8000000) := by
  have a0 : 0 ≤ n * n := Int.mul_nonneg h.1 h.1
  have a1 : n * n ≤ 200 * 200 := Int.mul_le_mul h.2 h.2 h.1 (by omega)
  have b0 : 0 ≤ n * n * n := Int.mul_nonneg a0 h.1
  have b1 : n * n * n ≤ 40000 * 200 := Int.mul_le_mul (by omega) h.2 h.1 (by omega)
  omega
theorem cubic_c {n : Int} {H : AHeap} {K : CK} (h1 : 0 ≤ n ∧ n ≤ 200 → K (.returned (.tuple #[iv (cub n), iv 0])) H) (h2 : ¬(0 ≤ n ∧ n ≤ 200) → K (.returned (.tuple #[iv 0, iv 7])) H) : callS P (fnV 19) [iv n] H K := by
  refine callS_walk tt_ok Try.func19 rfl (by kernel_rfl) ?_
  conv => whnf
  refine within_c' (fun h => ?_) (fun h => ?_)
  · obtain ⟨b1, b2⟩ := cub_bd h
    repeat' ((conv => whnf); first | apply yA | apply yB | ((first | apply zA | apply zC | apply zE | apply zG); (· assumption)) | ((first | apply zB | apply zD | apply zF | apply zH); (· assumption)) | apply zM | apply zN | apply zO | apply zP | apply zQ | apply zR | apply zS | apply zT | apply zU | (apply zV; (· omega)) | (apply zW; (· omega)) | (apply zX; (· (first | omega | (dsimp only; omega)))) | (apply zY; (try (apply zY; apply zX; (· omega))); apply zX; (· omega); apply zX; (· (first | omega | (dsimp only; omega)))) | ((first | apply zA | apply zC | apply zE | apply zG); (· omega)) | ((first | apply zB | apply zD | apply zF | apply zH); (· omega)) | ((first | apply zI | apply zK); (· assumption)) | ((first | apply zJ | apply zL); (· assumption)) | fail)
    conv => whnf
    refine rounded_c (by omega) (by omega) ?_
    repeat' ((conv => whnf); first | apply yA | apply yB | ((first | apply zA | apply zC | apply zE | apply zG); (· assumption)) | ((first | apply zB | apply zD | apply zF | apply zH); (· assumption)) | apply zM | apply zN | apply zO | apply zP | apply zQ | apply zR | apply zS | apply zT | apply zU | (apply zV; (· omega)) | (apply zW; (· omega)) | (apply zX; (· (first | omega | (dsimp only; omega)))) | (apply zY; (try (apply zY; apply zX; (· omega))); apply zX; (· omega); apply zX; (· (first | omega | (dsimp only; omega)))) | ((first | apply zA | apply zC | apply zE | apply zG); (· omega)) | ((first | apply zB | apply zD | apply zF | apply zH); (· omega)) | ((first | apply zI | apply zK); (· assumption)) | ((first | apply zJ | apply zL); (· assumption)) | fail)
    conv => whnf
    have e : rnd (n * n * n * 65536) 1000000 = cub n := by
      unfold rnd cub
      rw [if_neg (by omega), show Int.tdiv 1000000 2 = 500000 from rfl, Int.tdiv_eq_ediv_of_nonneg (by omega)]
    rw [e]
    exact h1 h
  · skip
    repeat' ((conv => whnf); first | apply yA | apply yB | ((first | apply zA | apply zC | apply zE | apply zG); (· assumption)) | ((first | apply zB | apply zD | apply zF | apply zH); (· assumption)) | apply zM | apply zN | apply zO | apply zP | apply zQ | apply zR | apply zS | apply zT | apply zU | (apply zV; (· omega)) | (apply zW; (· omega)) | (apply zX; (· (first | omega | (dsimp only; omega)))) | (apply zY; (try (apply zY; apply zX; (· omega))); apply zX; (· omega); apply zX; (· (first | omega | (dsimp only; omega)))) | ((first | apply zA | apply zC | apply zE | apply zG); (· omega)) | ((first | apply zB | apply zD | apply zF | apply zH); (· omega)) | ((first | apply zI | apply zK); (· assumption)) | ((first | apply zJ | apply zL); (· assumption)) | fail)
    conv => whnf
    exact h2 h
theorem refCubic_c {n : Int} {H : AHeap} {K : CK} (h1 : 0 ≤ n ∧ n ≤ 200 → K (.returned (.tuple #[iv (cub n), iv 0])) H) (h2 : ¬(0 ≤ n ∧ n ≤ 200) → K (.returned (.tuple #[iv 0, iv 7])) H) : callS P (fnV 20) [iv n] H K := by
  refine callS_walk tt_ok Try.func20 rfl (by kernel_rfl) ?_
  conv => whnf
  by_cases ha : n < 0
  · skip
    repeat' ((conv => whnf); first | (apply drawS_auto mixed tt_ok; (· kernel_rfl)) | apply zZ | apply yA | apply yB | ((first | apply zA | apply zC | apply zE | apply zG); (· assumption)) | ((first | apply zB | apply zD | apply zF | apply zH); (· assumption)) | apply zM | apply zN | apply zO | apply zP | apply zQ | apply zR | apply zS | apply zT | apply zU | (apply zV; (· omega)) | (apply zW; (· omega)) | (apply zX; (· (first | omega | (dsimp only; omega)))) | (apply zY; (try (apply zY; apply zX; (· omega))); apply zX; (· omega); apply zX; (· (first | omega | (dsimp only; omega)))) | ((first | apply zA | apply zC | apply zE | apply zG); (· omega)) | ((first | apply zB | apply zD | apply zF | apply zH); (· omega)) | ((first | apply zI | apply zK); (· assumption)) | ((first | apply zJ | apply zL); (· assumption)) | fail)
    conv => whnf
    exact h2 (by omega)
  · by_cases hb : 200 < n
    · skip
      repeat' ((conv => whnf); first | (apply drawS_auto mixed tt_ok; (· kernel_rfl)) | apply zZ | apply yA | apply yB | ((first | apply zA | apply zC | apply zE | apply zG); (· assumption)) | ((first | apply zB | apply zD | apply zF | apply zH); (· assumption)) | apply zM | apply zN | apply zO | apply zP | apply zQ | apply zR | apply zS | apply zT | apply zU | (apply zV; (· omega)) | (apply zW; (· omega)) | (apply zX; (· (first | omega | (dsimp only; omega)))) | (apply zY; (try (apply zY; apply zX; (· omega))); apply zX; (· omega); apply zX; (· (first | omega | (dsimp only; omega)))) | ((first | apply zA | apply zC | apply zE | apply zG); (· omega)) | ((first | apply zB | apply zD | apply zF | apply zH); (· omega)) | ((first | apply zI | apply zK); (· assumption)) | ((first | apply zJ | apply zL); (· assumption)) | fail)
      conv => whnf
      exact h2 (by omega)
    · have h : 0 ≤ n ∧ n ≤ 200 := by omega
      obtain ⟨b1, b2⟩ := cub_bd h
      repeat' ((conv => whnf); first | (apply drawS_auto mixed tt_ok; (· kernel_rfl)) | apply zZ | apply yA | apply yB | ((first | apply zA | apply zC | apply zE | apply zG); (· assumption)) | ((first | apply zB | apply zD | apply zF | apply zH); (· assumption)) | apply zM | apply zN | apply zO | apply zP | apply zQ | apply zR | apply zS | apply zT | apply zU | (apply zV; (· omega)) | (apply zW; (· omega)) | (apply zX; (· (first | omega | (dsimp only; omega)))) | (apply zY; (try (apply zY; apply zX; (· omega))); apply zX; (· omega); apply zX; (· (first | omega | (dsimp only; omega)))) | ((first | apply zA | apply zC | apply zE | apply zG); (· omega)) | ((first | apply zB | apply zD | apply zF | apply zH); (· omega)) | ((first | apply zI | apply zK); (· assumption)) | ((first | apply zJ | apply zL); (· assumption)) | fail)
      conv => whnf
      refine rounded2_pos (by omega) (by omega) ?_
      repeat' ((conv => whnf); first | (apply drawS_auto mixed tt_ok; (· kernel_rfl)) | apply zZ | apply yA | apply yB | ((first | apply zA | apply zC | apply zE | apply zG); (· assumption)) | ((first | apply zB | apply zD | apply zF | apply zH); (· assumption)) | apply zM | apply zN | apply zO | apply zP | apply zQ | apply zR | apply zS | apply zT | apply zU | (apply zV; (· omega)) | (apply zW; (· omega)) | (apply zX; (· (first | omega | (dsimp only; omega)))) | (apply zY; (try (apply zY; apply zX; (· omega))); apply zX; (· omega); apply zX; (· (first | omega | (dsimp only; omega)))) | ((first | apply zA | apply zC | apply zE | apply zG); (· omega)) | ((first | apply zB | apply zD | apply zF | apply zH); (· omega)) | ((first | apply zI | apply zK); (· assumption)) | ((first | apply zJ | apply zL); (· assumption)) | fail)
      conv => whnf
      have e : rnd2 (n * n * n * 65536) 1000000 = cub n := by
        unfold rnd2 cub
        rw [Int.tdiv_eq_ediv_of_nonneg (by omega), Int.tmod_eq_emod_of_nonneg (by omega)]
        generalize n * n * n * 65536 = m
        split <;> omega
      rw [e]
      exact h1 h

theorem percent_c {g : Int} {H : AHeap} {K : CK} (h0 : bad g = true → K (.returned (.tuple #[iv 0, iv 7])) H)
    (h1 : bad g = false → ∀ k : Nat, k ≤ 200 → g ≤ cub k → (∀ j : Nat, j < k → cub j < g) → K (.returned (.tuple #[iv k, iv 0])) H)
    (h2 : bad g = false → (∀ j : Nat, j ≤ 200 → cub j < g) → K (.returned (.tuple #[iv 0, iv 8])) H) : callS P (fnV 21) [iv g] H K := by
  refine callS_walk tt_ok Try.func21 rfl (by kernel_rfl) ?_
  conv => whnf
  refine odd_c ?_
  conv => whnf
  refine condK_of (fun hp => ?_) (fun hp => ?_)
  · skip
    repeat' ((conv => whnf); first | apply yA | apply yB | ((first | apply zA | apply zC | apply zE | apply zG); (· assumption)) | ((first | apply zB | apply zD | apply zF | apply zH); (· assumption)) | apply zM | apply zN | apply zO | apply zP | apply zQ | apply zR | apply zS | apply zT | apply zU | (apply zV; (· omega)) | (apply zW; (· omega)) | (apply zX; (· (first | omega | (dsimp only; omega)))) | (apply zY; (try (apply zY; apply zX; (· omega))); apply zX; (· omega); apply zX; (· (first | omega | (dsimp only; omega)))) | ((first | apply zA | apply zC | apply zE | apply zG); (· omega)) | ((first | apply zB | apply zD | apply zF | apply zH); (· omega)) | ((first | apply zI | apply zK); (· assumption)) | ((first | apply zJ | apply zL); (· assumption)) | fail)
    conv => whnf
    exact h0 hp
  · skip
    repeat' ((conv => whnf); first | apply yA | apply yB | ((first | apply zA | apply zC | apply zE | apply zG); (· assumption)) | ((first | apply zB | apply zD | apply zF | apply zH); (· assumption)) | apply zM | apply zN | apply zO | apply zP | apply zQ | apply zR | apply zS | apply zT | apply zU | (apply zV; (· omega)) | (apply zW; (· omega)) | (apply zX; (· (first | omega | (dsimp only; omega)))) | (apply zY; (try (apply zY; apply zX; (· omega))); apply zX; (· omega); apply zX; (· (first | omega | (dsimp only; omega)))) | ((first | apply zA | apply zC | apply zE | apply zG); (· omega)) | ((first | apply zB | apply zD | apply zF | apply zH); (· omega)) | ((first | apply zI | apply zK); (· assumption)) | ((first | apply zJ | apply zL); (· assumption)) | fail)
    conv => whnf
    let S : Nat → St := fun k => ⟨[iv g, undef, undef, undef, undef, undef, undef, undef, undef, iv k, undef, undef, undef, undef, undef, undef, undef, undef, undef, undef, undef, undef], [], .run, H⟩
    refine loopS_weak (s' := S 0) (weak_of ?_) ?_
    · skip
      repeat' (first | exact WT.nil | refine WT.same ?_ | refine WT.drop ?_ | refine WT.int (by omega) ?_ | refine WT.eq (by assumption) ?_)
    refine loopS_ix (ι := Nat) tt_ok S (fun k => k ≤ 201 ∧ ∀ j : Nat, j < k → cub j < g) (fun k => 201 - k) (fun k hk => ?_) 0 ⟨by omega, fun j hj => absurd hj (by omega)⟩
    obtain ⟨hk, hall⟩ := hk
    by_cases hlt : (k : Int) < 201
    · skip
      repeat' ((conv => whnf); first | apply yA | apply yB | ((first | apply zA | apply zC | apply zE | apply zG); (· assumption)) | ((first | apply zB | apply zD | apply zF | apply zH); (· assumption)) | apply zM | apply zN | apply zO | apply zP | apply zQ | apply zR | apply zS | apply zT | apply zU | (apply zV; (· omega)) | (apply zW; (· omega)) | (apply zX; (· (first | omega | (dsimp only; omega)))) | (apply zY; (try (apply zY; apply zX; (· omega))); apply zX; (· omega); apply zX; (· (first | omega | (dsimp only; omega)))) | ((first | apply zA | apply zC | apply zE | apply zG); (· omega)) | ((first | apply zB | apply zD | apply zF | apply zH); (· omega)) | ((first | apply zI | apply zK); (· assumption)) | ((first | apply zJ | apply zL); (· assumption)) | fail)
      conv => whnf
      refine cubic_c (fun hin => ?_) (fun hin => absurd (by omega) hin)
      by_cases hge : g ≤ cub k
      · skip
        repeat' ((conv => whnf); first | apply yA | apply yB | ((first | apply zA | apply zC | apply zE | apply zG); (· assumption)) | ((first | apply zB | apply zD | apply zF | apply zH); (· assumption)) | apply zM | apply zN | apply zO | apply zP | apply zQ | apply zR | apply zS | apply zT | apply zU | (apply zV; (· omega)) | (apply zW; (· omega)) | (apply zX; (· (first | omega | (dsimp only; omega)))) | (apply zY; (try (apply zY; apply zX; (· omega))); apply zX; (· omega); apply zX; (· (first | omega | (dsimp only; omega)))) | ((first | apply zA | apply zC | apply zE | apply zG); (· omega)) | ((first | apply zB | apply zD | apply zF | apply zH); (· omega)) | ((first | apply zI | apply zK); (· assumption)) | ((first | apply zJ | apply zL); (· assumption)) | fail)
        conv => whnf
        exact h1 hp k (by omega) hge hall
      · skip
        repeat' ((conv => whnf); first | apply yA | apply yB | ((first | apply zA | apply zC | apply zE | apply zG); (· assumption)) | ((first | apply zB | apply zD | apply zF | apply zH); (· assumption)) | apply zM | apply zN | apply zO | apply zP | apply zQ | apply zR | apply zS | apply zT | apply zU | (apply zV; (· omega)) | (apply zW; (· omega)) | (apply zX; (· (first | omega | (dsimp only; omega)))) | (apply zY; (try (apply zY; apply zX; (· omega))); apply zX; (· omega); apply zX; (· (first | omega | (dsimp only; omega)))) | ((first | apply zA | apply zC | apply zE | apply zG); (· omega)) | ((first | apply zB | apply zD | apply zF | apply zH); (· omega)) | ((first | apply zI | apply zK); (· assumption)) | ((first | apply zJ | apply zL); (· assumption)) | fail)
        conv => whnf
        refine ⟨k + 1, ⟨by omega, fun j hj => ?_⟩, by omega, weak_of ?_⟩
        · by_cases hjk : j = k
          · subst hjk; omega
          · exact hall j (by omega)
        · skip
          repeat' (first | exact WT.nil | refine WT.same ?_ | refine WT.drop ?_ | refine WT.int (by omega) ?_ | refine WT.eq (by assumption) ?_)
    · skip
      repeat' ((conv => whnf); first | apply yA | apply yB | ((first | apply zA | apply zC | apply zE | apply zG); (· assumption)) | ((first | apply zB | apply zD | apply zF | apply zH); (· assumption)) | apply zM | apply zN | apply zO | apply zP | apply zQ | apply zR | apply zS | apply zT | apply zU | (apply zV; (· omega)) | (apply zW; (· omega)) | (apply zX; (· (first | omega | (dsimp only; omega)))) | (apply zY; (try (apply zY; apply zX; (· omega))); apply zX; (· omega); apply zX; (· (first | omega | (dsimp only; omega)))) | ((first | apply zA | apply zC | apply zE | apply zG); (· omega)) | ((first | apply zB | apply zD | apply zF | apply zH); (· omega)) | ((first | apply zI | apply zK); (· assumption)) | ((first | apply zJ | apply zL); (· assumption)) | fail)
      conv => whnf
      exact h2 hp fun j hj => hall j (by omega)

theorem refPercent_c {g : Int} {H : AHeap} {K : CK} (h0 : bad g = true → K (.returned (.tuple #[iv 0, iv 7])) H)
    (h1 : bad g = false → ∀ k : Nat, k ≤ 200 → g ≤ cub k → (∀ j : Nat, j < k → cub j < g) → K (.returned (.tuple #[iv k, iv 0])) H)
    (h2 : bad g = false → (∀ j : Nat, j ≤ 200 → cub j < g) → K (.returned (.tuple #[iv 0, iv 8])) H) : callS P (fnV 22) [iv g] H K := by
  refine callS_walk tt_ok Try.func22 rfl (by kernel_rfl) ?_
  conv => whnf
  refine gain_c ?_
  conv => whnf
  refine condK_not (condK_not (condK_of (fun hp => ?_) (fun hp => ?_)))
  · skip
    repeat' ((conv => whnf); first | apply yA | apply yB | ((first | apply zA | apply zC | apply zE | apply zG); (· assumption)) | ((first | apply zB | apply zD | apply zF | apply zH); (· assumption)) | apply zM | apply zN | apply zO | apply zP | apply zQ | apply zR | apply zS | apply zT | apply zU | (apply zV; (· omega)) | (apply zW; (· omega)) | (apply zX; (· (first | omega | (dsimp only; omega)))) | (apply zY; (try (apply zY; apply zX; (· omega))); apply zX; (· omega); apply zX; (· (first | omega | (dsimp only; omega)))) | ((first | apply zA | apply zC | apply zE | apply zG); (· omega)) | ((first | apply zB | apply zD | apply zF | apply zH); (· omega)) | ((first | apply zI | apply zK); (· assumption)) | ((first | apply zJ | apply zL); (· assumption)) | fail)
    conv => whnf
    exact h0 hp
  · skip
    repeat' ((conv => whnf); first | apply yA | apply yB | ((first | apply zA | apply zC | apply zE | apply zG); (· assumption)) | ((first | apply zB | apply zD | apply zF | apply zH); (· assumption)) | apply zM | apply zN | apply zO | apply zP | apply zQ | apply zR | apply zS | apply zT | apply zU | (apply zV; (· omega)) | (apply zW; (· omega)) | (apply zX; (· (first | omega | (dsimp only; omega)))) | (apply zY; (try (apply zY; apply zX; (· omega))); apply zX; (· omega); apply zX; (· (first | omega | (dsimp only; omega)))) | ((first | apply zA | apply zC | apply zE | apply zG); (· omega)) | ((first | apply zB | apply zD | apply zF | apply zH); (· omega)) | ((first | apply zI | apply zK); (· assumption)) | ((first | apply zJ | apply zL); (· assumption)) | fail)
    conv => whnf
    let S : Nat → St := fun k => ⟨[iv g, undef, undef, undef, iv k, undef, undef, undef, undef, undef, undef, undef, undef, undef, undef, undef, undef, undef, undef, undef, undef, undef, undef], [], .run, H⟩
    refine loopS_weak (s' := S 0) (weak_of ?_) ?_
    · skip
      repeat' (first | exact WT.nil | refine WT.same ?_ | refine WT.drop ?_ | refine WT.int (by omega) ?_ | refine WT.eq (by assumption) ?_)
    refine loopS_ix (ι := Nat) tt_ok S (fun k => k ≤ 201 ∧ ∀ j : Nat, j < k → cub j < g) (fun k => 201 - k) (fun k hk => ?_) 0 ⟨by omega, fun j hj => absurd hj (by omega)⟩
    obtain ⟨hk, hall⟩ := hk
    by_cases hlt : (k : Int) ≤ 200
    · skip
      repeat' ((conv => whnf); first | apply yA | apply yB | ((first | apply zA | apply zC | apply zE | apply zG); (· assumption)) | ((first | apply zB | apply zD | apply zF | apply zH); (· assumption)) | apply zM | apply zN | apply zO | apply zP | apply zQ | apply zR | apply zS | apply zT | apply zU | (apply zV; (· omega)) | (apply zW; (· omega)) | (apply zX; (· (first | omega | (dsimp only; omega)))) | (apply zY; (try (apply zY; apply zX; (· omega))); apply zX; (· omega); apply zX; (· (first | omega | (dsimp only; omega)))) | ((first | apply zA | apply zC | apply zE | apply zG); (· omega)) | ((first | apply zB | apply zD | apply zF | apply zH); (· omega)) | ((first | apply zI | apply zK); (· assumption)) | ((first | apply zJ | apply zL); (· assumption)) | fail)
      conv => whnf
      refine refCubic_c (fun hin => ?_) (fun hin => absurd (by omega) hin)
      by_cases hge : g ≤ cub k
      · skip
        repeat' ((conv => whnf); first | apply yA | apply yB | ((first | apply zA | apply zC | apply zE | apply zG); (· assumption)) | ((first | apply zB | apply zD | apply zF | apply zH); (· assumption)) | apply zM | apply zN | apply zO | apply zP | apply zQ | apply zR | apply zS | apply zT | apply zU | (apply zV; (· omega)) | (apply zW; (· omega)) | (apply zX; (· (first | omega | (dsimp only; omega)))) | (apply zY; (try (apply zY; apply zX; (· omega))); apply zX; (· omega); apply zX; (· (first | omega | (dsimp only; omega)))) | ((first | apply zA | apply zC | apply zE | apply zG); (· omega)) | ((first | apply zB | apply zD | apply zF | apply zH); (· omega)) | ((first | apply zI | apply zK); (· assumption)) | ((first | apply zJ | apply zL); (· assumption)) | fail)
        conv => whnf
        exact h1 hp k (by omega) hge hall
      · skip
        repeat' ((conv => whnf); first | apply yA | apply yB | ((first | apply zA | apply zC | apply zE | apply zG); (· assumption)) | ((first | apply zB | apply zD | apply zF | apply zH); (· assumption)) | apply zM | apply zN | apply zO | apply zP | apply zQ | apply zR | apply zS | apply zT | apply zU | (apply zV; (· omega)) | (apply zW; (· omega)) | (apply zX; (· (first | omega | (dsimp only; omega)))) | (apply zY; (try (apply zY; apply zX; (· omega))); apply zX; (· omega); apply zX; (· (first | omega | (dsimp only; omega)))) | ((first | apply zA | apply zC | apply zE | apply zG); (· omega)) | ((first | apply zB | apply zD | apply zF | apply zH); (· omega)) | ((first | apply zI | apply zK); (· assumption)) | ((first | apply zJ | apply zL); (· assumption)) | fail)
        conv => whnf
        refine ⟨k + 1, ⟨by omega, fun j hj => ?_⟩, by omega, weak_of ?_⟩
        · by_cases hjk : j = k
          · subst hjk; omega
          · exact hall j (by omega)
        · skip
          repeat' (first | exact WT.nil | refine WT.same ?_ | refine WT.drop ?_ | refine WT.int (by omega) ?_ | refine WT.eq (by assumption) ?_)
    · skip
      repeat' ((conv => whnf); first | apply yA | apply yB | ((first | apply zA | apply zC | apply zE | apply zG); (· assumption)) | ((first | apply zB | apply zD | apply zF | apply zH); (· assumption)) | apply zM | apply zN | apply zO | apply zP | apply zQ | apply zR | apply zS | apply zT | apply zU | (apply zV; (· omega)) | (apply zW; (· omega)) | (apply zX; (· (first | omega | (dsimp only; omega)))) | (apply zY; (try (apply zY; apply zX; (· omega))); apply zX; (· omega); apply zX; (· (first | omega | (dsimp only; omega)))) | ((first | apply zA | apply zC | apply zE | apply zG); (· omega)) | ((first | apply zB | apply zD | apply zF | apply zH); (· omega)) | ((first | apply zI | apply zK); (· assumption)) | ((first | apply zJ | apply zL); (· assumption)) | fail)
      conv => whnf
      exact h2 hp fun j hj => hall j (by omega)

def chainV (xs : List Int) : Int := bif xs.any bad then 0 else xs.foldl chainStep 65536
def chainE (xs : List Int) : Int := bif xs.any bad then 7 else 0
theorem chain_d {v : Value} {xs : List Int} {H : AHeap} {K : CK} (hx : IsRow H v xs) (hlen : xs.length ≤ 9223372036854775807) (h : K (.returned (.tuple #[iv (chainV xs), iv (chainE xs)])) H) : callS P (fnV 17) [v] H K :=
  chain_c hx hlen (fun hp => by simpa [chainV, chainE, hp] using h) (fun hp => by simpa [chainV, chainE, hp] using h)
theorem refChain_d {v : Value} {xs : List Int} {H : AHeap} {K : CK} (hx : IsRow H v xs) (hlen : xs.length ≤ 9223372036854775807) (h : K (.returned (.tuple #[iv (chainV xs), iv (chainE xs)])) H) : callS P (fnV 18) [v] H K :=
  refChain_c hx hlen (fun hp => by simpa [chainV, chainE, hp] using h) (fun hp => by rw [folds_eq xs 65536 (by omega) hp]; simpa [chainV, chainE, hp] using h)
def cubV (n : Int) : Int := if 0 ≤ n ∧ n ≤ 200 then cub n else 0
def cubE (n : Int) : Int := if 0 ≤ n ∧ n ≤ 200 then 0 else 7
theorem cubic_d {n : Int} {H : AHeap} {K : CK} (h : K (.returned (.tuple #[iv (cubV n), iv (cubE n)])) H) : callS P (fnV 19) [iv n] H K :=
  cubic_c (fun hp => by simpa [cubV, cubE, hp] using h) (fun hp => by rw [cubV, cubE, if_neg hp, if_neg hp] at h; exact h)
theorem refCubic_d {n : Int} {H : AHeap} {K : CK} (h : K (.returned (.tuple #[iv (cubV n), iv (cubE n)])) H) : callS P (fnV 20) [iv n] H K :=
  refCubic_c (fun hp => by simpa [cubV, cubE, hp] using h) (fun hp => by rw [cubV, cubE, if_neg hp, if_neg hp] at h; exact h)
def percAt (g : Int) : Option Nat := (List.range 201).find? fun j => decide (g ≤ cub j)
def percV (g : Int) : Int := bif bad g then 0 else (match percAt g with | some k => (k : Int) | none => 0)
def percE (g : Int) : Int := bif bad g then 7 else (match percAt g with | some _ => 0 | none => 8)
theorem percAt_some {g : Int} {k : Nat} (hk : k ≤ 200) (h1 : g ≤ cub k) (h2 : ∀ j : Nat, j < k → cub j < g) : percAt g = some k := by
  unfold percAt
  rw [List.find?_range_eq_some]
  refine ⟨by simpa using h1, by simp; omega, fun j hj => ?_⟩
  have := h2 j hj
  simp; omega
theorem percAt_none {g : Int} (h : ∀ j : Nat, j ≤ 200 → cub j < g) : percAt g = none := by
  unfold percAt
  rw [List.find?_eq_none]
  intro j hj
  have := h j (by have := List.mem_range.1 hj; omega)
  simp; omega
theorem percent_d {g : Int} {H : AHeap} {K : CK} (h : K (.returned (.tuple #[iv (percV g), iv (percE g)])) H) : callS P (fnV 21) [iv g] H K :=
  percent_c (fun hp => by simpa [percV, percE, hp] using h) (fun hp k a b c => by simpa [percV, percE, hp, percAt_some a b c] using h) (fun hp a => by simpa [percV, percE, hp, percAt_none a] using h)
theorem refPercent_d {g : Int} {H : AHeap} {K : CK} (h : K (.returned (.tuple #[iv (percV g), iv (percE g)])) H) : callS P (fnV 22) [iv g] H K :=
  refPercent_c (fun hp => by simpa [percV, percE, hp] using h) (fun hp k a b c => by simpa [percV, percE, hp, percAt_some a b c] using h) (fun hp a => by simpa [percV, percE, hp, percAt_none a] using h)
theorem awake_c {H : AHeap} {K : CK} (h : K (.returned (.bool true)) H) : callS P (fnV 8) [] H K :=
  callS_closed mixed tt_ok (n := 40) (by kernel_rfl) h
theorem chains_law {v : Value} {xs : List Int} {n : Int} {H : AHeap} (hx : IsRow H v xs) (hn : -9223372036854775808 ≤ n ∧ n ≤ 9223372036854775807) (hlen : xs.length ≤ 9223372036854775807) :
    ACall P 4 [v, iv n] H (fun e _ => e = .returned (.bool true)) := by
  refine acall_walk tt_ok Try.func4 rfl ?_
  conv => whnf
  obtain ⟨a, cap, rfl⟩ : ∃ a cap, v = .slice a xs.length cap := by
    rcases hx.2 with ⟨rfl, rfl⟩ | ⟨i, off, cap, c, own, sz, rfl, _⟩
    · exact ⟨_, _, rfl⟩
    · exact ⟨_, _, rfl⟩
  by_cases hl : 1000 < (xs.length : Int)
  · skip
    repeat' ((conv => whnf); first | (apply drawS_auto mixed tt_ok; (· kernel_rfl)) | apply zZ | apply yA | apply yB | ((first | apply zA | apply zC | apply zE | apply zG); (· assumption)) | ((first | apply zB | apply zD | apply zF | apply zH); (· assumption)) | apply zM | apply zN | apply zO | apply zP | apply zQ | apply zR | apply zS | apply zT | apply zU | (apply zV; (· omega)) | (apply zW; (· omega)) | (apply zX; (· (first | omega | (dsimp only; omega)))) | (apply zY; (try (apply zY; apply zX; (· omega))); apply zX; (· omega); apply zX; (· (first | omega | (dsimp only; omega)))) | ((first | apply yJ | apply yK | apply yL | apply yM | apply yN | apply yO); (· (repeat (first | assumption | ((first | apply yP | apply yQ); (first | omega | (simp; done) | (simp; omega))) | ((first | refine (yR _ _ ?_).trans ?_ | refine (yS _ _ ?_).trans ?_ | refine (yT _ ?_).trans ?_ | refine (yU (by assumption) _ ?_).trans ?_); (· (first | omega | (simp; done) | (simp; omega)))) | exact rfl))); (· (constructor <;> first | trivial | rfl | exact Nat.le_of_ble_eq_true rfl | ((try dsimp only); (try simp only [List.length_map, List.length_cons, List.length_nil, List.length_append, List.length_set, List.length_replicate, List.length_range]); omega)))) | ((first | apply zA | apply zC | apply zE | apply zG); (· omega)) | ((first | apply zB | apply zD | apply zF | apply zH); (· omega)) | ((first | apply zI | apply zK); (· assumption)) | ((first | apply zJ | apply zL); (· assumption)) | fail)
    conv => whnf
    refine awake_c ?_
    repeat' ((conv => whnf); first | (apply drawS_auto mixed tt_ok; (· kernel_rfl)) | apply zZ | apply yA | apply yB | ((first | apply zA | apply zC | apply zE | apply zG); (· assumption)) | ((first | apply zB | apply zD | apply zF | apply zH); (· assumption)) | apply zM | apply zN | apply zO | apply zP | apply zQ | apply zR | apply zS | apply zT | apply zU | (apply zV; (· omega)) | (apply zW; (· omega)) | (apply zX; (· (first | omega | (dsimp only; omega)))) | (apply zY; (try (apply zY; apply zX; (· omega))); apply zX; (· omega); apply zX; (· (first | omega | (dsimp only; omega)))) | ((first | apply yJ | apply yK | apply yL | apply yM | apply yN | apply yO); (· (repeat (first | assumption | ((first | apply yP | apply yQ); (first | omega | (simp; done) | (simp; omega))) | ((first | refine (yR _ _ ?_).trans ?_ | refine (yS _ _ ?_).trans ?_ | refine (yT _ ?_).trans ?_ | refine (yU (by assumption) _ ?_).trans ?_); (· (first | omega | (simp; done) | (simp; omega)))) | exact rfl))); (· (constructor <;> first | trivial | rfl | exact Nat.le_of_ble_eq_true rfl | ((try dsimp only); (try simp only [List.length_map, List.length_cons, List.length_nil, List.length_append, List.length_set, List.length_replicate, List.length_range]); omega)))) | ((first | apply zA | apply zC | apply zE | apply zG); (· omega)) | ((first | apply zB | apply zD | apply zF | apply zH); (· omega)) | ((first | apply zI | apply zK); (· assumption)) | ((first | apply zJ | apply zL); (· assumption)) | fail)
    conv => whnf
  · skip
    repeat' ((conv => whnf); first | (apply drawS_auto mixed tt_ok; (· kernel_rfl)) | apply zZ | apply yA | apply yB | ((first | apply zA | apply zC | apply zE | apply zG); (· assumption)) | ((first | apply zB | apply zD | apply zF | apply zH); (· assumption)) | apply zM | apply zN | apply zO | apply zP | apply zQ | apply zR | apply zS | apply zT | apply zU | (apply zV; (· omega)) | (apply zW; (· omega)) | (apply zX; (· (first | omega | (dsimp only; omega)))) | (apply zY; (try (apply zY; apply zX; (· omega))); apply zX; (· omega); apply zX; (· (first | omega | (dsimp only; omega)))) | ((first | apply yJ | apply yK | apply yL | apply yM | apply yN | apply yO); (· (repeat (first | assumption | ((first | apply yP | apply yQ); (first | omega | (simp; done) | (simp; omega))) | ((first | refine (yR _ _ ?_).trans ?_ | refine (yS _ _ ?_).trans ?_ | refine (yT _ ?_).trans ?_ | refine (yU (by assumption) _ ?_).trans ?_); (· (first | omega | (simp; done) | (simp; omega)))) | exact rfl))); (· (constructor <;> first | trivial | rfl | exact Nat.le_of_ble_eq_true rfl | ((try dsimp only); (try simp only [List.length_map, List.length_cons, List.length_nil, List.length_append, List.length_set, List.length_replicate, List.length_range]); omega)))) | ((first | apply zA | apply zC | apply zE | apply zG); (· omega)) | ((first | apply zB | apply zD | apply zF | apply zH); (· omega)) | ((first | apply zI | apply zK); (· assumption)) | ((first | apply zJ | apply zL); (· assumption)) | fail)
    conv => whnf
    refine chain_d hx hlen ?_
    repeat' ((conv => whnf); first | (apply drawS_auto mixed tt_ok; (· kernel_rfl)) | apply zZ | apply yA | apply yB | ((first | apply zA | apply zC | apply zE | apply zG); (· assumption)) | ((first | apply zB | apply zD | apply zF | apply zH); (· assumption)) | apply zM | apply zN | apply zO | apply zP | apply zQ | apply zR | apply zS | apply zT | apply zU | (apply zV; (· omega)) | (apply zW; (· omega)) | (apply zX; (· (first | omega | (dsimp only; omega)))) | (apply zY; (try (apply zY; apply zX; (· omega))); apply zX; (· omega); apply zX; (· (first | omega | (dsimp only; omega)))) | ((first | apply yJ | apply yK | apply yL | apply yM | apply yN | apply yO); (· (repeat (first | assumption | ((first | apply yP | apply yQ); (first | omega | (simp; done) | (simp; omega))) | ((first | refine (yR _ _ ?_).trans ?_ | refine (yS _ _ ?_).trans ?_ | refine (yT _ ?_).trans ?_ | refine (yU (by assumption) _ ?_).trans ?_); (· (first | omega | (simp; done) | (simp; omega)))) | exact rfl))); (· (constructor <;> first | trivial | rfl | exact Nat.le_of_ble_eq_true rfl | ((try dsimp only); (try simp only [List.length_map, List.length_cons, List.length_nil, List.length_append, List.length_set, List.length_replicate, List.length_range]); omega)))) | ((first | apply zA | apply zC | apply zE | apply zG); (· omega)) | ((first | apply zB | apply zD | apply zF | apply zH); (· omega)) | ((first | apply zI | apply zK); (· assumption)) | ((first | apply zJ | apply zL); (· assumption)) | fail)
    conv => whnf
    refine refChain_d hx hlen ?_
    repeat' ((conv => whnf); first | (apply drawS_auto mixed tt_ok; (· kernel_rfl)) | apply zZ | apply yA | apply yB | ((first | apply zA | apply zC | apply zE | apply zG); (· assumption)) | ((first | apply zB | apply zD | apply zF | apply zH); (· assumption)) | apply zM | apply zN | apply zO | apply zP | apply zQ | apply zR | apply zS | apply zT | apply zU | (apply zV; (· omega)) | (apply zW; (· omega)) | (apply zX; (· (first | omega | (dsimp only; omega)))) | (apply zY; (try (apply zY; apply zX; (· omega))); apply zX; (· omega); apply zX; (· (first | omega | (dsimp only; omega)))) | ((first | apply yJ | apply yK | apply yL | apply yM | apply yN | apply yO); (· (repeat (first | assumption | ((first | apply yP | apply yQ); (first | omega | (simp; done) | (simp; omega))) | ((first | refine (yR _ _ ?_).trans ?_ | refine (yS _ _ ?_).trans ?_ | refine (yT _ ?_).trans ?_ | refine (yU (by assumption) _ ?_).trans ?_); (· (first | omega | (simp; done) | (simp; omega)))) | exact rfl))); (· (constructor <;> first | trivial | rfl | exact Nat.le_of_ble_eq_true rfl | ((try dsimp only); (try simp only [List.length_map, List.length_cons, List.length_nil, List.length_append, List.length_set, List.length_replicate, List.length_range]); omega)))) | ((first | apply zA | apply zC | apply zE | apply zG); (· omega)) | ((first | apply zB | apply zD | apply zF | apply zH); (· omega)) | ((first | apply zI | apply zK); (· assumption)) | ((first | apply zJ | apply zL); (· assumption)) | fail)
    conv => whnf
    refine cubic_d ?_
    repeat' ((conv => whnf); first | (apply drawS_auto mixed tt_ok; (· kernel_rfl)) | apply zZ | apply yA | apply yB | ((first | apply zA | apply zC | apply zE | apply zG); (· assumption)) | ((first | apply zB | apply zD | apply zF | apply zH); (· assumption)) | apply zM | apply zN | apply zO | apply zP | apply zQ | apply zR | apply zS | apply zT | apply zU | (apply zV; (· omega)) | (apply zW; (· omega)) | (apply zX; (· (first | omega | (dsimp only; omega)))) | (apply zY; (try (apply zY; apply zX; (· omega))); apply zX; (· omega); apply zX; (· (first | omega | (dsimp only; omega)))) | ((first | apply yJ | apply yK | apply yL | apply yM | apply yN | apply yO); (· (repeat (first | assumption | ((first | apply yP | apply yQ); (first | omega | (simp; done) | (simp; omega))) | ((first | refine (yR _ _ ?_).trans ?_ | refine (yS _ _ ?_).trans ?_ | refine (yT _ ?_).trans ?_ | refine (yU (by assumption) _ ?_).trans ?_); (· (first | omega | (simp; done) | (simp; omega)))) | exact rfl))); (· (constructor <;> first | trivial | rfl | exact Nat.le_of_ble_eq_true rfl | ((try dsimp only); (try simp only [List.length_map, List.length_cons, List.length_nil, List.length_append, List.length_set, List.length_replicate, List.length_range]); omega)))) | ((first | apply zA | apply zC | apply zE | apply zG); (· omega)) | ((first | apply zB | apply zD | apply zF | apply zH); (· omega)) | ((first | apply zI | apply zK); (· assumption)) | ((first | apply zJ | apply zL); (· assumption)) | fail)
    conv => whnf
    refine refCubic_d ?_
    repeat' ((conv => whnf); first | (apply drawS_auto mixed tt_ok; (· kernel_rfl)) | apply zZ | apply yA | apply yB | ((first | apply zA | apply zC | apply zE | apply zG); (· assumption)) | ((first | apply zB | apply zD | apply zF | apply zH); (· assumption)) | apply zM | apply zN | apply zO | apply zP | apply zQ | apply zR | apply zS | apply zT | apply zU | (apply zV; (· omega)) | (apply zW; (· omega)) | (apply zX; (· (first | omega | (dsimp only; omega)))) | (apply zY; (try (apply zY; apply zX; (· omega))); apply zX; (· omega); apply zX; (· (first | omega | (dsimp only; omega)))) | ((first | apply yJ | apply yK | apply yL | apply yM | apply yN | apply yO); (· (repeat (first | assumption | ((first | apply yP | apply yQ); (first | omega | (simp; done) | (simp; omega))) | ((first | refine (yR _ _ ?_).trans ?_ | refine (yS _ _ ?_).trans ?_ | refine (yT _ ?_).trans ?_ | refine (yU (by assumption) _ ?_).trans ?_); (· (first | omega | (simp; done) | (simp; omega)))) | exact rfl))); (· (constructor <;> first | trivial | rfl | exact Nat.le_of_ble_eq_true rfl | ((try dsimp only); (try simp only [List.length_map, List.length_cons, List.length_nil, List.length_append, List.length_set, List.length_replicate, List.length_range]); omega)))) | ((first | apply zA | apply zC | apply zE | apply zG); (· omega)) | ((first | apply zB | apply zD | apply zF | apply zH); (· omega)) | ((first | apply zI | apply zK); (· assumption)) | ((first | apply zJ | apply zL); (· assumption)) | fail)
    conv => whnf
    refine percent_d ?_
    repeat' ((conv => whnf); first | (apply drawS_auto mixed tt_ok; (· kernel_rfl)) | apply zZ | apply yA | apply yB | ((first | apply zA | apply zC | apply zE | apply zG); (· assumption)) | ((first | apply zB | apply zD | apply zF | apply zH); (· assumption)) | apply zM | apply zN | apply zO | apply zP | apply zQ | apply zR | apply zS | apply zT | apply zU | (apply zV; (· omega)) | (apply zW; (· omega)) | (apply zX; (· (first | omega | (dsimp only; omega)))) | (apply zY; (try (apply zY; apply zX; (· omega))); apply zX; (· omega); apply zX; (· (first | omega | (dsimp only; omega)))) | ((first | apply yJ | apply yK | apply yL | apply yM | apply yN | apply yO); (· (repeat (first | assumption | ((first | apply yP | apply yQ); (first | omega | (simp; done) | (simp; omega))) | ((first | refine (yR _ _ ?_).trans ?_ | refine (yS _ _ ?_).trans ?_ | refine (yT _ ?_).trans ?_ | refine (yU (by assumption) _ ?_).trans ?_); (· (first | omega | (simp; done) | (simp; omega)))) | exact rfl))); (· (constructor <;> first | trivial | rfl | exact Nat.le_of_ble_eq_true rfl | ((try dsimp only); (try simp only [List.length_map, List.length_cons, List.length_nil, List.length_append, List.length_set, List.length_replicate, List.length_range]); omega)))) | ((first | apply zA | apply zC | apply zE | apply zG); (· omega)) | ((first | apply zB | apply zD | apply zF | apply zH); (· omega)) | ((first | apply zI | apply zK); (· assumption)) | ((first | apply zJ | apply zL); (· assumption)) | fail)
    conv => whnf
    refine refPercent_d ?_
    repeat' ((conv => whnf); first | (apply drawS_auto mixed tt_ok; (· kernel_rfl)) | apply zZ | apply yA | apply yB | ((first | apply zA | apply zC | apply zE | apply zG); (· assumption)) | ((first | apply zB | apply zD | apply zF | apply zH); (· assumption)) | apply zM | apply zN | apply zO | apply zP | apply zQ | apply zR | apply zS | apply zT | apply zU | (apply zV; (· omega)) | (apply zW; (· omega)) | (apply zX; (· (first | omega | (dsimp only; omega)))) | (apply zY; (try (apply zY; apply zX; (· omega))); apply zX; (· omega); apply zX; (· (first | omega | (dsimp only; omega)))) | ((first | apply yJ | apply yK | apply yL | apply yM | apply yN | apply yO); (· (repeat (first | assumption | ((first | apply yP | apply yQ); (first | omega | (simp; done) | (simp; omega))) | ((first | refine (yR _ _ ?_).trans ?_ | refine (yS _ _ ?_).trans ?_ | refine (yT _ ?_).trans ?_ | refine (yU (by assumption) _ ?_).trans ?_); (· (first | omega | (simp; done) | (simp; omega)))) | exact rfl))); (· (constructor <;> first | trivial | rfl | exact Nat.le_of_ble_eq_true rfl | ((try dsimp only); (try simp only [List.length_map, List.length_cons, List.length_nil, List.length_append, List.length_set, List.length_replicate, List.length_range]); omega)))) | ((first | apply zA | apply zC | apply zE | apply zG); (· omega)) | ((first | apply zB | apply zD | apply zF | apply zH); (· omega)) | ((first | apply zI | apply zK); (· assumption)) | ((first | apply zJ | apply zL); (· assumption)) | fail)
    conv => whnf
    have hrow : IsRow (H.push (.cells [iv 65536, iv n, iv 65536] true 1)) (.slice (some ⟨H.size, 0, none⟩) 3 3) [65536, n, 65536] :=
      ⟨by simp; omega, .inr ⟨H.size, 0, 3, _, true, 1, rfl, AHeap.push_new _ _, fun k x hk => by
        match k, hk with
        | 0, hk => simp at hk; subst hk; rfl
        | 1, hk => simp at hk; subst hk; rfl
        | 2, hk => simp at hk; subst hk; rfl
        | k + 3, hk => simp at hk⟩⟩
    refine chain_c hrow (by simp) (fun hb => ?_) (fun hb => ?_)
    · skip
      repeat' ((conv => whnf); first | (apply drawS_auto mixed tt_ok; (· kernel_rfl)) | apply zZ | apply yA | apply yB | ((first | apply zA | apply zC | apply zE | apply zG); (· assumption)) | ((first | apply zB | apply zD | apply zF | apply zH); (· assumption)) | apply zM | apply zN | apply zO | apply zP | apply zQ | apply zR | apply zS | apply zT | apply zU | (apply zV; (· omega)) | (apply zW; (· omega)) | (apply zX; (· (first | omega | (dsimp only; omega)))) | (apply zY; (try (apply zY; apply zX; (· omega))); apply zX; (· omega); apply zX; (· (first | omega | (dsimp only; omega)))) | ((first | apply yJ | apply yK | apply yL | apply yM | apply yN | apply yO); (· (repeat (first | assumption | ((first | apply yP | apply yQ); (first | omega | (simp; done) | (simp; omega))) | ((first | refine (yR _ _ ?_).trans ?_ | refine (yS _ _ ?_).trans ?_ | refine (yT _ ?_).trans ?_ | refine (yU (by assumption) _ ?_).trans ?_); (· (first | omega | (simp; done) | (simp; omega)))) | exact rfl))); (· (constructor <;> first | trivial | rfl | exact Nat.le_of_ble_eq_true rfl | ((try dsimp only); (try simp only [List.length_map, List.length_cons, List.length_nil, List.length_append, List.length_set, List.length_replicate, List.length_range]); omega)))) | ((first | apply zA | apply zC | apply zE | apply zG); (· omega)) | ((first | apply zB | apply zD | apply zF | apply zH); (· omega)) | ((first | apply zI | apply zK); (· assumption)) | ((first | apply zJ | apply zL); (· assumption)) | fail)
      conv => whnf
      refine awake_c ?_
      repeat' ((conv => whnf); first | (apply drawS_auto mixed tt_ok; (· kernel_rfl)) | apply zZ | apply yA | apply yB | ((first | apply zA | apply zC | apply zE | apply zG); (· assumption)) | ((first | apply zB | apply zD | apply zF | apply zH); (· assumption)) | apply zM | apply zN | apply zO | apply zP | apply zQ | apply zR | apply zS | apply zT | apply zU | (apply zV; (· omega)) | (apply zW; (· omega)) | (apply zX; (· (first | omega | (dsimp only; omega)))) | (apply zY; (try (apply zY; apply zX; (· omega))); apply zX; (· omega); apply zX; (· (first | omega | (dsimp only; omega)))) | ((first | apply yJ | apply yK | apply yL | apply yM | apply yN | apply yO); (· (repeat (first | assumption | ((first | apply yP | apply yQ); (first | omega | (simp; done) | (simp; omega))) | ((first | refine (yR _ _ ?_).trans ?_ | refine (yS _ _ ?_).trans ?_ | refine (yT _ ?_).trans ?_ | refine (yU (by assumption) _ ?_).trans ?_); (· (first | omega | (simp; done) | (simp; omega)))) | exact rfl))); (· (constructor <;> first | trivial | rfl | exact Nat.le_of_ble_eq_true rfl | ((try dsimp only); (try simp only [List.length_map, List.length_cons, List.length_nil, List.length_append, List.length_set, List.length_replicate, List.length_range]); omega)))) | ((first | apply zA | apply zC | apply zE | apply zG); (· omega)) | ((first | apply zB | apply zD | apply zF | apply zH); (· omega)) | ((first | apply zI | apply zK); (· assumption)) | ((first | apply zJ | apply zL); (· assumption)) | fail)
      conv => whnf
    · have hbn : 0 ≤ n ∧ n ≤ 655360 := bad_not hb (by simp)
      have e : [65536, n, 65536].foldl chainStep 65536 = n := by
        simp only [List.foldl_cons, List.foldl_nil]
        rw [show chainStep 65536 65536 = 65536 from rfl]
        unfold chainStep
        rw [rnd_pos (a := 65536 * n) (by omega)]
        have e1 : max (0 - 655360) (min 655360 ((65536 * n + 32768) / 65536)) = n := by omega
        rw [e1, rnd_pos (a := n * 65536) (by omega)]
        omega
      rw [e]
      repeat' ((conv => whnf); first | (apply drawS_auto mixed tt_ok; (· kernel_rfl)) | apply zZ | apply yA | apply yB | ((first | apply zA | apply zC | apply zE | apply zG); (· assumption)) | ((first | apply zB | apply zD | apply zF | apply zH); (· assumption)) | apply zM | apply zN | apply zO | apply zP | apply zQ | apply zR | apply zS | apply zT | apply zU | (apply zV; (· omega)) | (apply zW; (· omega)) | (apply zX; (· (first | omega | (dsimp only; omega)))) | (apply zY; (try (apply zY; apply zX; (· omega))); apply zX; (· omega); apply zX; (· (first | omega | (dsimp only; omega)))) | ((first | apply yJ | apply yK | apply yL | apply yM | apply yN | apply yO); (· (repeat (first | assumption | ((first | apply yP | apply yQ); (first | omega | (simp; done) | (simp; omega))) | ((first | refine (yR _ _ ?_).trans ?_ | refine (yS _ _ ?_).trans ?_ | refine (yT _ ?_).trans ?_ | refine (yU (by assumption) _ ?_).trans ?_); (· (first | omega | (simp; done) | (simp; omega)))) | exact rfl))); (· (constructor <;> first | trivial | rfl | exact Nat.le_of_ble_eq_true rfl | ((try dsimp only); (try simp only [List.length_map, List.length_cons, List.length_nil, List.length_append, List.length_set, List.length_replicate, List.length_range]); omega)))) | ((first | apply zA | apply zC | apply zE | apply zG); (· omega)) | ((first | apply zB | apply zD | apply zF | apply zH); (· omega)) | ((first | apply zI | apply zK); (· assumption)) | ((first | apply zJ | apply zL); (· assumption)) | fail)
      conv => whnf
      refine awake_c ?_
      repeat' ((conv => whnf); first | (apply drawS_auto mixed tt_ok; (· kernel_rfl)) | apply zZ | apply yA | apply yB | ((first | apply zA | apply zC | apply zE | apply zG); (· assumption)) | ((first | apply zB | apply zD | apply zF | apply zH); (· assumption)) | apply zM | apply zN | apply zO | apply zP | apply zQ | apply zR | apply zS | apply zT | apply zU | (apply zV; (· omega)) | (apply zW; (· omega)) | (apply zX; (· (first | omega | (dsimp only; omega)))) | (apply zY; (try (apply zY; apply zX; (· omega))); apply zX; (· omega); apply zX; (· (first | omega | (dsimp only; omega)))) | ((first | apply yJ | apply yK | apply yL | apply yM | apply yN | apply yO); (· (repeat (first | assumption | ((first | apply yP | apply yQ); (first | omega | (simp; done) | (simp; omega))) | ((first | refine (yR _ _ ?_).trans ?_ | refine (yS _ _ ?_).trans ?_ | refine (yT _ ?_).trans ?_ | refine (yU (by assumption) _ ?_).trans ?_); (· (first | omega | (simp; done) | (simp; omega)))) | exact rfl))); (· (constructor <;> first | trivial | rfl | exact Nat.le_of_ble_eq_true rfl | ((try dsimp only); (try simp only [List.length_map, List.length_cons, List.length_nil, List.length_append, List.length_set, List.length_replicate, List.length_range]); omega)))) | ((first | apply zA | apply zC | apply zE | apply zG); (· omega)) | ((first | apply zB | apply zD | apply zF | apply zH); (· omega)) | ((first | apply zI | apply zK); (· assumption)) | ((first | apply zJ | apply zL); (· assumption)) | fail)
      conv => whnf
end Go.Abs
