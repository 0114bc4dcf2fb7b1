/- Contract of Part, the reference's: some frames of a block. -/
import Derived.Test.YthjmijjppaebgaaR04
set_option linter.all false
set_option maxHeartbeats 1000000
set_option maxRecDepth 20000
namespace Go.Abs
open Go Go.Proofs

def cutR (f t : Nat) (r : List Int) : List Int := (r.drop f).take (t - f)
def cutM (f t : Nat) (m : List (List Int)) : List (List Int) := m.map (cutR f t)
theorem cutR_len {f t : Nat} {r : List Int} (h : t ≤ r.length) : (cutR f t r).length = t - f := by unfold cutR; rw [List.length_take, List.length_drop]; omega
theorem cutM_len (f t : Nat) (m : List (List Int)) : (cutM f t m).length = m.length := by simp [cutM]
theorem cutM_get {f t k : Nat} {m : List (List Int)} (h : k < m.length) : (cutM f t m)[k]'(by rw [cutM_len]; exact h) = cutR f t m[k] := by simp [cutM]
theorem partG_c {a : Option Addr} {c L f t : Nat} {m : List (List Int)} {H : AHeap} {K : CK} (hx : Mat H a m) (hL : ∀ r ∈ m, r.length = L) (hn : 1 ≤ m.length ∧ m.length ≤ 1000000 ∧ L ≤ 1000000) (hft : f ≤ t ∧ t ≤ L)
    (h : ∀ H' o rs, H.le H' → OMat H' H.size o rs (cutM f t m) [] → K (.returned (.slice (some ⟨o, 0, none⟩) m.length m.length)) H') : callS P (fnV 27) [.slice a m.length c, iv f, iv t] H K := by
  obtain ⟨i0, off, rfl⟩ := hx.at (k := 0) (by omega)
  have hql := cutM_len f t m
  obtain ⟨q, hq⟩ : ∃ q, q = cutM f t m := ⟨_, rfl⟩
  rw [← hq] at hql h
  have hqg : ∀ k (h1 : k < m.length), q[k]'(by omega) = cutR f t m[k] := by
    subst hq
    intro k h1
    exact cutM_get h1
  refine callS_walk tt_ok Try.func27 rfl (by kernel_rfl) ?_
  conv => whnf
  repeat' ((conv => whnf); first | ((first | (apply vB; (case h => with_reducible assumption)) | (apply vA; (case h => with_reducible assumption)) | (apply vC; (case h => with_reducible assumption))); (case hk => exact kpA); (case he => omega)) | ((first | (apply vI; (case h => with_reducible assumption)) | (apply vG; (case h => with_reducible assumption)) | (apply vK; (case h => with_reducible assumption))); (case hk => exact kpA); (case he => omega); (case hp => omega); (case' g => intro hr_ hc_)) | ((first | (apply vJ; (case h => with_reducible assumption)) | (apply vH; (case h => with_reducible assumption)) | (apply vL; (case h => with_reducible assumption))); (case hk => exact kpA); (case he => omega); (case' g => intro hr_ hc_)) | apply yA | apply yB | ((first | apply zA | apply zC | apply zE | apply zG); (· with_reducible assumption)) | ((first | apply zB | apply zD | apply zF | apply zH); (· with_reducible assumption)) | apply zM | apply zN | apply zO | apply zP | apply zQ | apply zR | apply zS | apply zT | apply zU | (apply zV; (· omega)) | (apply zW; (· omega)) | (apply zX; (· (first | omega | (dsimp only; omega)))) | (apply zY; (try (apply zY; apply zX; (· omega))); apply zX; (· omega); apply zX; (· (first | omega | (dsimp only; omega)))) | ((first | apply yJ | apply yK | apply yL | apply yM | apply yN | apply yO); (· exact hgA); (· exact hsA)) | (apply yNP; (· exact hgA); (· exact hsA)) | ((first | apply zA | apply zC | apply zE | apply zG); (· omega)) | ((first | apply zB | apply zD | apply zF | apply zH); (· omega)) | ((first | apply zI | apply zK); (· with_reducible assumption)) | ((first | apply zJ | apply zL); (· with_reducible assumption)) | fail)
  conv => whnf
  refine loopS_mask tt_ok (fun (k : Nat × AHeap × Value) => [.k, .k, .k, .w, .w, .w, .w, .p (k.2.2), .p (iv k.1), .w, .w, .w, .w, .w, .w, .w, .w, .w, .w, .w, .w, .w, .w, .w, .w, .w, .w, .w]) (fun (k : Nat × AHeap × Value) => k.2.1) (fun (k : Nat × AHeap × Value) => k.1 ≤ m.length ∧ H.le k.2.1 ∧ OMatV k.2.1 H.size k.2.2 (q.take k.1)) (fun (k : Nat × AHeap × Value) => m.length - k.1) (⟨0, H, .slice none 0 0⟩) (⟨by omega, AHeap.le.refl H, .inl ⟨rfl, rfl⟩⟩) ?_ (fun k hk => ?_)
  · conv => whnf
    refine weakH_of (HW.refl _) ?_
    repeat' (first | exact WT.nil | refine WT.same ?_ | refine WT.drop ?_ | refine WT.int (by omega) ?_ | refine WT.eq (by assumption) ?_ | refine WT.bl (by first | assumption | (symm; assumption)) ?_ | refine WT.vv (by assumption) ?_)
  obtain ⟨k, H1, v⟩ := k
  obtain ⟨hk, hle, hv⟩ := hk
  dsimp only at hk hle hv ⊢
  have hsz := hle.size
  have hkp := hle.kp
  by_cases hlt : k < m.length
  · have hrl := hL m[k] (List.getElem_mem _)
    have hts := take_succ_of (xs := q) (k := k) (by omega)
    have hqk := hqg k hlt
    have hrq : (q[k]'(by omega)).length = t - f := by rw [hqk]; exact cutR_len (by omega)
    have htl : (q.take k).length = k := by rw [List.length_take]; omega
    rcases hv with ⟨rfl, hk0⟩ | ⟨o, rs, rfl, hm⟩
    · have hk0 : k = 0 := by
        have := congrArg List.length hk0
        simpa [htl] using this
      subst hk0
      repeat' ((conv => whnf); first | (refine loadK_matS hx ?_ hlt (fun he_ => ?_) (fun ri ro rc hrow hcap => ?_); (· exact kpA)) | ((first | (apply vB; (case h => with_reducible assumption)) | (apply vA; (case h => with_reducible assumption)) | (apply vC; (case h => with_reducible assumption))); (case hk => exact kpA); (case he => omega)) | ((first | (apply vI; (case h => with_reducible assumption)) | (apply vG; (case h => with_reducible assumption)) | (apply vK; (case h => with_reducible assumption))); (case hk => exact kpA); (case he => omega); (case hp => omega); (case' g => intro hr_ hc_)) | ((first | (apply vJ; (case h => with_reducible assumption)) | (apply vH; (case h => with_reducible assumption)) | (apply vL; (case h => with_reducible assumption))); (case hk => exact kpA); (case he => omega); (case' g => intro hr_ hc_)) | apply yA | apply yB | ((first | apply zA | apply zC | apply zE | apply zG); (· with_reducible assumption)) | ((first | apply zB | apply zD | apply zF | apply zH); (· with_reducible assumption)) | apply zM | apply zN | apply zO | apply zP | apply zQ | apply zR | apply zS | apply zT | apply zU | (apply zV; (· omega)) | (apply zW; (· omega)) | (apply zX; (· (first | omega | (dsimp only; omega)))) | (apply zY; (try (apply zY; apply zX; (· omega))); apply zX; (· omega); apply zX; (· (first | omega | (dsimp only; omega)))) | ((first | apply yJ | apply yK | apply yL | apply yM | apply yN | apply yO); (· exact hgA); (· exact hsA)) | (apply yNP; (· exact hgA); (· exact hsA)) | ((first | apply zA | apply zC | apply zE | apply zG); (· omega)) | ((first | apply zB | apply zD | apply zF | apply zH); (· omega)) | ((first | apply zI | apply zK); (· with_reducible assumption)) | ((first | apply zJ | apply zL); (· with_reducible assumption)) | fail)
      conv => whnf
      · obtain rfl : t = 0 := by omega
        obtain rfl : f = 0 := by omega
        have hm0 : q[0]'(by omega) = [] := List.eq_nil_of_length_eq_zero (by omega)
        repeat' ((conv => whnf); first | ((first | (apply vB; (case h => with_reducible assumption)) | (apply vA; (case h => with_reducible assumption)) | (apply vC; (case h => with_reducible assumption))); (case hk => exact kpA); (case he => omega)) | ((first | (apply vI; (case h => with_reducible assumption)) | (apply vG; (case h => with_reducible assumption)) | (apply vK; (case h => with_reducible assumption))); (case hk => exact kpA); (case he => omega); (case hp => omega); (case' g => intro hr_ hc_)) | ((first | (apply vJ; (case h => with_reducible assumption)) | (apply vH; (case h => with_reducible assumption)) | (apply vL; (case h => with_reducible assumption))); (case hk => exact kpA); (case he => omega); (case' g => intro hr_ hc_)) | apply yA | apply yB | ((first | apply zA | apply zC | apply zE | apply zG); (· with_reducible assumption)) | ((first | apply zB | apply zD | apply zF | apply zH); (· with_reducible assumption)) | apply zM | apply zN | apply zO | apply zP | apply zQ | apply zR | apply zS | apply zT | apply zU | (apply zV; (· omega)) | (apply zW; (· omega)) | (apply zX; (· (first | omega | (dsimp only; omega)))) | (apply zY; (try (apply zY; apply zX; (· omega))); apply zX; (· omega); apply zX; (· (first | omega | (dsimp only; omega)))) | ((first | apply yJ | apply yK | apply yL | apply yM | apply yN | apply yO); (· exact hgA); (· exact hsA)) | (apply yNP; (· exact hgA); (· exact hsA)) | ((first | apply zA | apply zC | apply zE | apply zG); (· omega)) | ((first | apply zB | apply zD | apply zF | apply zH); (· omega)) | ((first | apply zI | apply zK); (· with_reducible assumption)) | ((first | apply zJ | apply zL); (· with_reducible assumption)) | fail)
        conv => whnf
        apply Exists.intro (1, _, _)
        refine ⟨?inv, ?mu, ?wk⟩
        case wk =>
          conv => whnf
          refine weakH_of (HW.refl _) ?_
          repeat' (first | exact WT.nil | refine WT.same ?_ | refine WT.drop ?_ | refine WT.int (by omega) ?_ | refine WT.eq (by assumption) ?_ | refine WT.bl (by first | assumption | (symm; assumption)) ?_ | refine WT.vv (by assumption) ?_)
        case mu => first | omega | (dsimp only; omega)
        case inv => exact ⟨by omega, leA, .inr ⟨_, _, by rw [hts, hm0]; rfl, by rw [hts, hm0]; exact OMat.one (x := []) (r := H1.size + 1) hoA hoA hoA hgA hgA⟩⟩
      · have e0 : 0 + ((t : Int).toNat - (f : Int).toNat) = (q[0]'(by omega)).length := by rw [hrq]; omega
        have hsub := hrow.sub (a := f) (n := t - f) (by omega)
        rw [show (m[0].drop f).take (t - f) = q[0]'(by omega) from hqk.symm] at hsub
        repeat' ((conv => whnf); first | (refine loadsK_rowS hsub ?_ ?_ ?_ ?_; (· exact kpA); (· simp); (· simp; omega)) | ((first | (apply vB; (case h => with_reducible assumption)) | (apply vA; (case h => with_reducible assumption)) | (apply vC; (case h => with_reducible assumption))); (case hk => exact kpA); (case he => omega)) | ((first | (apply vI; (case h => with_reducible assumption)) | (apply vG; (case h => with_reducible assumption)) | (apply vK; (case h => with_reducible assumption))); (case hk => exact kpA); (case he => omega); (case hp => omega); (case' g => intro hr_ hc_)) | ((first | (apply vJ; (case h => with_reducible assumption)) | (apply vH; (case h => with_reducible assumption)) | (apply vL; (case h => with_reducible assumption))); (case hk => exact kpA); (case he => omega); (case' g => intro hr_ hc_)) | apply yA | apply yB | ((first | apply zA | apply zC | apply zE | apply zG); (· with_reducible assumption)) | ((first | apply zB | apply zD | apply zF | apply zH); (· with_reducible assumption)) | apply zM | apply zN | apply zO | apply zP | apply zQ | apply zR | apply zS | apply zT | apply zU | (apply zV; (· omega)) | (apply zW; (· omega)) | (apply zX; (· (first | omega | (dsimp only; omega)))) | (apply zY; (try (apply zY; apply zX; (· omega))); apply zX; (· omega); apply zX; (· (first | omega | (dsimp only; omega)))) | ((first | apply yJ | apply yK | apply yL | apply yM | apply yN | apply yO); (· exact hgA); (· exact hsA)) | (apply yNP; (· exact hgA); (· exact hsA)) | ((first | apply zA | apply zC | apply zE | apply zG); (· omega)) | ((first | apply zB | apply zD | apply zF | apply zH); (· omega)) | ((first | apply zI | apply zK); (· with_reducible assumption)) | ((first | apply zJ | apply zL); (· with_reducible assumption)) | fail)
        conv => whnf
        rw [e0]
        apply Exists.intro (1, _, _)
        refine ⟨?inv, ?mu, ?wk⟩
        case wk =>
          conv => whnf
          refine weakH_of (HW.refl _) ?_
          repeat' (first | exact WT.nil | refine WT.same ?_ | refine WT.drop ?_ | refine WT.int (by omega) ?_ | refine WT.eq (by assumption) ?_ | refine WT.bl (by first | assumption | (symm; assumption)) ?_ | refine WT.vv (by assumption) ?_)
        case mu => first | omega | (dsimp only; omega)
        case inv => exact ⟨by omega, leA, .inr ⟨_, _, by rw [hts]; rfl, by rw [hts]; exact OMat.one (x := q[0]'(by omega)) (r := H1.size + 1) hoA hoA hoA hgA hgA⟩⟩
    · have ho := hm.outer
      have hlt1 := hm.lt.1
      have hlo := hm.lo.1
      rw [List.append_nil] at ho
      have hzl : (zipS rs (q.take k)).length = k := by rw [zipS_len hm.len, htl]
      rw [htl]
      repeat' ((conv => whnf); first | (refine loadK_matS hx ?_ hlt (fun he_ => ?_) (fun ri ro rc hrow hcap => ?_); (· exact kpA)) | ((first | (apply vB; (case h => with_reducible assumption)) | (apply vA; (case h => with_reducible assumption)) | (apply vC; (case h => with_reducible assumption))); (case hk => exact kpA); (case he => omega)) | ((first | (apply vI; (case h => with_reducible assumption)) | (apply vG; (case h => with_reducible assumption)) | (apply vK; (case h => with_reducible assumption))); (case hk => exact kpA); (case he => omega); (case hp => omega); (case' g => intro hr_ hc_)) | ((first | (apply vJ; (case h => with_reducible assumption)) | (apply vH; (case h => with_reducible assumption)) | (apply vL; (case h => with_reducible assumption))); (case hk => exact kpA); (case he => omega); (case' g => intro hr_ hc_)) | apply yA | apply yB | ((first | apply zA | apply zC | apply zE | apply zG); (· with_reducible assumption)) | ((first | apply zB | apply zD | apply zF | apply zH); (· with_reducible assumption)) | apply zM | apply zN | apply zO | apply zP | apply zQ | apply zR | apply zS | apply zT | apply zU | (apply zV; (· omega)) | (apply zW; (· omega)) | (apply zX; (· (first | omega | (dsimp only; omega)))) | (apply zY; (try (apply zY; apply zX; (· omega))); apply zX; (· omega); apply zX; (· (first | omega | (dsimp only; omega)))) | ((first | apply yJ | apply yK | apply yL | apply yM | apply yN | apply yO); (· exact hgA); (· exact hsA)) | (apply yNP; (· exact hgA); (· exact hsA)) | ((first | apply zA | apply zC | apply zE | apply zG); (· omega)) | ((first | apply zB | apply zD | apply zF | apply zH); (· omega)) | ((first | apply zI | apply zK); (· with_reducible assumption)) | ((first | apply zJ | apply zL); (· with_reducible assumption)) | fail)
      conv => whnf
      · obtain rfl : t = 0 := by omega
        obtain rfl : f = 0 := by omega
        have hm0 : q[k]'(by omega) = [] := List.eq_nil_of_length_eq_zero (by omega)
        repeat' ((conv => whnf); first | ((first | (apply vB; (case h => with_reducible assumption)) | (apply vA; (case h => with_reducible assumption)) | (apply vC; (case h => with_reducible assumption))); (case hk => exact kpA); (case he => omega)) | ((first | (apply vI; (case h => with_reducible assumption)) | (apply vG; (case h => with_reducible assumption)) | (apply vK; (case h => with_reducible assumption))); (case hk => exact kpA); (case he => omega); (case hp => omega); (case' g => intro hr_ hc_)) | ((first | (apply vJ; (case h => with_reducible assumption)) | (apply vH; (case h => with_reducible assumption)) | (apply vL; (case h => with_reducible assumption))); (case hk => exact kpA); (case he => omega); (case' g => intro hr_ hc_)) | apply yA | apply yB | ((first | apply zA | apply zC | apply zE | apply zG); (· with_reducible assumption)) | ((first | apply zB | apply zD | apply zF | apply zH); (· with_reducible assumption)) | apply zM | apply zN | apply zO | apply zP | apply zQ | apply zR | apply zS | apply zT | apply zU | (apply zV; (· omega)) | (apply zW; (· omega)) | (apply zX; (· (first | omega | (dsimp only; omega)))) | (apply zY; (try (apply zY; apply zX; (· omega))); apply zX; (· omega); apply zX; (· (first | omega | (dsimp only; omega)))) | ((first | apply yJ | apply yK | apply yL | apply yM | apply yN | apply yO); (· exact hgA); (· exact hsA)) | (apply yNP; (· exact hgA); (· exact hsA)) | ((first | apply zA | apply zC | apply zE | apply zG); (· omega)) | ((first | apply zB | apply zD | apply zF | apply zH); (· omega)) | ((first | apply zI | apply zK); (· with_reducible assumption)) | ((first | apply zJ | apply zL); (· with_reducible assumption)) | fail)
        conv => whnf
        apply Exists.intro (k + 1, _, _)
        refine ⟨?inv, ?mu, ?wk⟩
        case wk =>
          conv => whnf
          refine weakH_of (HW.refl _) ?_
          repeat' (first | exact WT.nil | refine WT.same ?_ | refine WT.drop ?_ | refine WT.int (by omega) ?_ | refine WT.eq (by assumption) ?_ | refine WT.bl (by first | assumption | (symm; assumption)) ?_ | refine WT.vv (by assumption) ?_)
        case mu => first | omega | (dsimp only; omega)
        case inv => exact ⟨by omega, leA, .inr ⟨_, _, by rw [hts, List.length_append, htl]; rfl, by rw [hts, hm0]; exact hm.snoc (x := []) (r := H1.size + 1) hsz hoA hoA hoA hgA hgA (fun i hi hne => hgA)⟩⟩
      · have e0 : 0 + ((t : Int).toNat - (f : Int).toNat) = (q[k]'(by omega)).length := by rw [hrq]; omega
        have hsub := hrow.sub (a := f) (n := t - f) (by omega)
        rw [show (m[k].drop f).take (t - f) = q[k]'(by omega) from hqk.symm] at hsub
        repeat' ((conv => whnf); first | (refine loadsK_rowS hsub ?_ ?_ ?_ ?_; (· exact kpA); (· simp); (· simp; omega)) | ((first | (apply vB; (case h => with_reducible assumption)) | (apply vA; (case h => with_reducible assumption)) | (apply vC; (case h => with_reducible assumption))); (case hk => exact kpA); (case he => omega)) | ((first | (apply vI; (case h => with_reducible assumption)) | (apply vG; (case h => with_reducible assumption)) | (apply vK; (case h => with_reducible assumption))); (case hk => exact kpA); (case he => omega); (case hp => omega); (case' g => intro hr_ hc_)) | ((first | (apply vJ; (case h => with_reducible assumption)) | (apply vH; (case h => with_reducible assumption)) | (apply vL; (case h => with_reducible assumption))); (case hk => exact kpA); (case he => omega); (case' g => intro hr_ hc_)) | apply yA | apply yB | ((first | apply zA | apply zC | apply zE | apply zG); (· with_reducible assumption)) | ((first | apply zB | apply zD | apply zF | apply zH); (· with_reducible assumption)) | apply zM | apply zN | apply zO | apply zP | apply zQ | apply zR | apply zS | apply zT | apply zU | (apply zV; (· omega)) | (apply zW; (· omega)) | (apply zX; (· (first | omega | (dsimp only; omega)))) | (apply zY; (try (apply zY; apply zX; (· omega))); apply zX; (· omega); apply zX; (· (first | omega | (dsimp only; omega)))) | ((first | apply yJ | apply yK | apply yL | apply yM | apply yN | apply yO); (· exact hgA); (· exact hsA)) | (apply yNP; (· exact hgA); (· exact hsA)) | ((first | apply zA | apply zC | apply zE | apply zG); (· omega)) | ((first | apply zB | apply zD | apply zF | apply zH); (· omega)) | ((first | apply zI | apply zK); (· with_reducible assumption)) | ((first | apply zJ | apply zL); (· with_reducible assumption)) | fail)
        conv => whnf
        rw [e0]
        apply Exists.intro (k + 1, _, _)
        refine ⟨?inv, ?mu, ?wk⟩
        case wk =>
          conv => whnf
          refine weakH_of (HW.refl _) ?_
          repeat' (first | exact WT.nil | refine WT.same ?_ | refine WT.drop ?_ | refine WT.int (by omega) ?_ | refine WT.eq (by assumption) ?_ | refine WT.bl (by first | assumption | (symm; assumption)) ?_ | refine WT.vv (by assumption) ?_)
        case mu => first | omega | (dsimp only; omega)
        case inv => exact ⟨by omega, leA, .inr ⟨_, _, by rw [hts, List.length_append, htl]; rfl, by rw [hts]; exact hm.snoc (x := q[k]'(by omega)) (r := H1.size + 1) hsz hoA hoA hoA hgA hgA (fun i hi hne => hgA)⟩⟩
  · have hkn : k = m.length := by omega
    rw [hkn, ← hql, List.take_length] at hv
    rcases hv with ⟨rfl, hk0⟩ | ⟨o, rs, rfl, hm⟩
    · have : m.length = 0 := by rw [← hql, hk0]; rfl
      omega
    · rw [hql]
      repeat' ((conv => whnf); first | ((first | (apply vB; (case h => with_reducible assumption)) | (apply vA; (case h => with_reducible assumption)) | (apply vC; (case h => with_reducible assumption))); (case hk => exact kpA); (case he => omega)) | ((first | (apply vI; (case h => with_reducible assumption)) | (apply vG; (case h => with_reducible assumption)) | (apply vK; (case h => with_reducible assumption))); (case hk => exact kpA); (case he => omega); (case hp => omega); (case' g => intro hr_ hc_)) | ((first | (apply vJ; (case h => with_reducible assumption)) | (apply vH; (case h => with_reducible assumption)) | (apply vL; (case h => with_reducible assumption))); (case hk => exact kpA); (case he => omega); (case' g => intro hr_ hc_)) | apply yA | apply yB | ((first | apply zA | apply zC | apply zE | apply zG); (· with_reducible assumption)) | ((first | apply zB | apply zD | apply zF | apply zH); (· with_reducible assumption)) | apply zM | apply zN | apply zO | apply zP | apply zQ | apply zR | apply zS | apply zT | apply zU | (apply zV; (· omega)) | (apply zW; (· omega)) | (apply zX; (· (first | omega | (dsimp only; omega)))) | (apply zY; (try (apply zY; apply zX; (· omega))); apply zX; (· omega); apply zX; (· (first | omega | (dsimp only; omega)))) | ((first | apply yJ | apply yK | apply yL | apply yM | apply yN | apply yO); (· exact hgA); (· exact hsA)) | (apply yNP; (· exact hgA); (· exact hsA)) | ((first | apply zA | apply zC | apply zE | apply zG); (· omega)) | ((first | apply zB | apply zD | apply zF | apply zH); (· omega)) | ((first | apply zI | apply zK); (· with_reducible assumption)) | ((first | apply zJ | apply zL); (· with_reducible assumption)) | fail)
      conv => whnf
      exact h _ _ _ hle hm
end Go.Abs
