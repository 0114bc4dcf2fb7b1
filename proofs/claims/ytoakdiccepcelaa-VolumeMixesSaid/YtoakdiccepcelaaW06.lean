/- Contract of Duck, the program's. -/
import Derived.Test.YtoakdiccepcelaaZ06
set_option linter.all false
set_option maxHeartbeats 4000000
set_option maxRecDepth 20000
namespace Go.Abs
open Go Go.Proofs

theorem loud_c {q : Option Addr} {c2 j ri rb : Nat} {by_ : List (List Int)} {bound : Int} {v : Bool} {H : AHeap} {K : CK} (hy : Mat H q by_) (hj : ∀ r ∈ by_, j < r.length) (hb : ∀ r ∈ by_, ∀ x ∈ r, -8388607 ≤ x ∧ x ≤ 8388607) (g1 : H.get ri = some (.cells [iv j] true 0)) (g2 : H.get rb = some (.cells [iv bound] true 0))
    (hv : loudB by_ bound j = v) (h : K (.returned (.bool v)) H) : callS P (fnV 67) [.slice q by_.length c2, .func (.func 68) #[] #[.pointer (some ⟨ri, 0, none⟩), .pointer (some ⟨rb, 0, none⟩)]] H K :=
  containsMat_c (p := fun r => decide (bound ≤ max (r.getD j 0) (0 - r.getD j 0))) hy (fun r hr _ _ hrow _ hK => duck1_c hrow (hj r hr) (hb r hr) g1 g2 hK) (by
    have e : (by_.any fun r => decide (bound ≤ max (r.getD j 0) (0 - r.getD j 0))) = v := hv
    rw [e]; exact h)
/-- rows without samples, each nil or of the call's own -/
theorem empties_fz {H : AHeap} {base b o n : Nat} {vs : List Value} {f : Nat → Nat → Int} (hb : b ≤ base) (hn : n ≤ 1000000) (hl : vs.length = n) (g : H.get o = some (.cells vs true 1)) (ho : base ≤ o ∧ o < H.size) (hv : ∀ v ∈ vs, ORowV H base v []) : Mat (H.fz b) (some ⟨o, 0, none⟩) (matF f n 0) := by
  refine .mk (FB.fz ho.2 (Nat.le_trans hb ho.1) g) (by rw [matF_len]; unfold maxN; omega) (by rw [matF_len]; omega) fun k hk => ?_
  have hk2 : k < n := by simpa using hk
  have hk' : k < vs.length := by omega
  refine ⟨_, rfl, by omega, ?_⟩
  rw [Nat.zero_add, Nat.mul_one, List.drop_eq_getElem_cons hk', List.take_succ_cons, List.take_zero, matF_get]
  obtain ⟨a, h1, h2⟩ := (hv vs[k] (List.getElem_mem _)).fz hb (by simp [maxN]) (by simp)
  refine ⟨a, 0, by rw [h1, rowF_len]; rfl, h2, ?_⟩
  rcases hv vs[k] (List.getElem_mem _) with ⟨h3, _⟩ | ⟨_, h3, _⟩
  · exact ⟨fun _ => rfl, by simp⟩
  · exact ⟨fun _ => rfl, by simp⟩

theorem duck_c {p q : Option Addr} {c1 c2 : Nat} {b by_ : List (List Int)} {bound g : Int} {H : AHeap} {K : CK} (hb : Mat H p b) (hy : Mat H q by_)
    (h : ∀ H' p' c', H.le H' → Mat H' p' (duckM b by_ bound g) → K (.returned (.tuple #[.slice p' (duckM b by_ bound g).length c', iv (duckE b by_ bound g)])) H') :
    callS P (fnV 27) [.slice p b.length c1, .slice q by_.length c2, iv bound, iv g] H K := by
  have bad_ : ∀ e, duckE b by_ bound g = e → e ≠ 0 → ∀ H', H.le H' → K (.returned (.tuple #[.slice none 0 0, iv e])) H' := fun e he hne H' hle => by
    have hm : duckM b by_ bound g = [] := by unfold duckM; rw [he, if_neg hne]
    have := h H' none 0 hle (by rw [hm]; exact .nil)
    rw [hm, he] at this; exact this
  cases hvb : blockB b with
  | false =>
    have hE : duckE b by_ bound g = 1 := by simp [duckE, hvb]
    refine callS_walk tt_ok Try.func27 rfl (by kernel_rfl) ?_
    conv => whnf
    repeat' ((conv => whnf); first | (apply layValid_v; (· exact mtA); (· assumption)) | (apply must_no; (· (first | rfl | assumption | exact decide_eq_false (by omega)))) | (apply caught_panic; (· exact hoA); (· exact hgA); intro H2 hle2 hg2) | ((first | (apply vB; (case h => assumption)) | (apply vA; (case h => assumption)) | (apply vC; (case h => assumption))); (case hk => exact kpA); (case he => omega)) | ((first | (apply vI; (case h => assumption)) | (apply vG; (case h => assumption)) | (apply vK; (case h => assumption))); (case hk => exact kpA); (case he => omega); (case hp => omega); (case' g => intro hr_ hc_)) | ((first | (apply vJ; (case h => assumption)) | (apply vH; (case h => assumption)) | (apply vL; (case h => assumption))); (case hk => exact kpA); (case he => omega); (case' g => intro hr_ hc_)) | (apply drawS_auto mixed tt_ok; (· kernel_rfl)) | apply zZ | apply yA | apply yB | ((first | apply zA | apply zC | apply zE | apply zG); (· assumption)) | ((first | apply zB | apply zD | apply zF | apply zH); (· assumption)) | apply zM | apply zN | apply zO | apply zP | apply zQ | apply zR | apply zS | apply zT | apply zU | (apply zV; (· omega)) | (apply zW; (· omega)) | (apply zX; (· (first | omega | (dsimp only; omega)))) | (apply zY; (try (apply zY; apply zX; (· omega))); apply zX; (· omega); apply zX; (· (first | omega | (dsimp only; omega)))) | ((first | apply yJ | apply yK | apply yL | apply yM | apply yN | apply yO); (· exact hgA); (· exact hsA)) | ((first | apply zA | apply zC | apply zE | apply zG); (· omega)) | ((first | apply zB | apply zD | apply zF | apply zH); (· omega)) | ((first | apply zI | apply zK); (· assumption)) | ((first | apply zJ | apply zL); (· assumption)) | fail)
    conv => whnf
    exact bad_ 1 hE (by omega) _ (AHeap.le.trans leA hle2)
  | true =>
    cases hvy : blockB by_ with
    | false =>
      have hE : duckE b by_ bound g = 1 := by simp [duckE, hvy]
      refine callS_walk tt_ok Try.func27 rfl (by kernel_rfl) ?_
      conv => whnf
      repeat' ((conv => whnf); first | (apply layValid_v; (· exact mtA); (· assumption)) | (apply must_no; (· (first | rfl | assumption | exact decide_eq_false (by omega)))) | (apply caught_panic; (· exact hoA); (· exact hgA); intro H2 hle2 hg2) | ((first | (apply vB; (case h => assumption)) | (apply vA; (case h => assumption)) | (apply vC; (case h => assumption))); (case hk => exact kpA); (case he => omega)) | ((first | (apply vI; (case h => assumption)) | (apply vG; (case h => assumption)) | (apply vK; (case h => assumption))); (case hk => exact kpA); (case he => omega); (case hp => omega); (case' g => intro hr_ hc_)) | ((first | (apply vJ; (case h => assumption)) | (apply vH; (case h => assumption)) | (apply vL; (case h => assumption))); (case hk => exact kpA); (case he => omega); (case' g => intro hr_ hc_)) | (apply drawS_auto mixed tt_ok; (· kernel_rfl)) | apply zZ | apply yA | apply yB | ((first | apply zA | apply zC | apply zE | apply zG); (· assumption)) | ((first | apply zB | apply zD | apply zF | apply zH); (· assumption)) | apply zM | apply zN | apply zO | apply zP | apply zQ | apply zR | apply zS | apply zT | apply zU | (apply zV; (· omega)) | (apply zW; (· omega)) | (apply zX; (· (first | omega | (dsimp only; omega)))) | (apply zY; (try (apply zY; apply zX; (· omega))); apply zX; (· omega); apply zX; (· (first | omega | (dsimp only; omega)))) | ((first | apply yJ | apply yK | apply yL | apply yM | apply yN | apply yO); (· exact hgA); (· exact hsA)) | ((first | apply zA | apply zC | apply zE | apply zG); (· omega)) | ((first | apply zB | apply zD | apply zF | apply zH); (· omega)) | ((first | apply zI | apply zK); (· assumption)) | ((first | apply zJ | apply zL); (· assumption)) | fail)
      conv => whnf
      exact bad_ 1 hE (by omega) _ (AHeap.le.trans leA hle2)
    | true =>
      by_cases hbd : 0 ≤ bound ∧ bound ≤ 8388607
      · cases hg : bad g with
        | true =>
          have hE : duckE b by_ bound g = 7 := by
            have : ¬ isGain g := fun hh => by rw [bad_t.2 hh] at hg; cases hg
            rw [duckE, if_pos ⟨hvb, hvy⟩, if_neg (fun hh => this hh.2)]
          refine callS_walk tt_ok Try.func27 rfl (by kernel_rfl) ?_
          conv => whnf
          repeat' ((conv => whnf); first | (apply layValid_v; (· exact mtA); (· assumption)) | (apply must_ok; (· (first | rfl | assumption | exact decide_eq_true (by omega)))) | (apply within_t; (· omega)) | (apply odd_v; (· assumption)) | (apply must_no; (· (first | rfl | assumption | exact decide_eq_false (by omega)))) | (apply caught_panic; (· exact hoA); (· exact hgA); intro H2 hle2 hg2) | ((first | (apply vB; (case h => assumption)) | (apply vA; (case h => assumption)) | (apply vC; (case h => assumption))); (case hk => exact kpA); (case he => omega)) | ((first | (apply vI; (case h => assumption)) | (apply vG; (case h => assumption)) | (apply vK; (case h => assumption))); (case hk => exact kpA); (case he => omega); (case hp => omega); (case' g => intro hr_ hc_)) | ((first | (apply vJ; (case h => assumption)) | (apply vH; (case h => assumption)) | (apply vL; (case h => assumption))); (case hk => exact kpA); (case he => omega); (case' g => intro hr_ hc_)) | (apply drawS_auto mixed tt_ok; (· kernel_rfl)) | apply zZ | apply yA | apply yB | ((first | apply zA | apply zC | apply zE | apply zG); (· assumption)) | ((first | apply zB | apply zD | apply zF | apply zH); (· assumption)) | apply zM | apply zN | apply zO | apply zP | apply zQ | apply zR | apply zS | apply zT | apply zU | (apply zV; (· omega)) | (apply zW; (· omega)) | (apply zX; (· (first | omega | (dsimp only; omega)))) | (apply zY; (try (apply zY; apply zX; (· omega))); apply zX; (· omega); apply zX; (· (first | omega | (dsimp only; omega)))) | ((first | apply yJ | apply yK | apply yL | apply yM | apply yN | apply yO); (· exact hgA); (· exact hsA)) | ((first | apply zA | apply zC | apply zE | apply zG); (· omega)) | ((first | apply zB | apply zD | apply zF | apply zH); (· omega)) | ((first | apply zI | apply zK); (· assumption)) | ((first | apply zJ | apply zL); (· assumption)) | fail)
          conv => whnf
          exact bad_ 7 hE (by omega) _ (AHeap.le.trans leA hle2)
        | false =>
          have hgn := bad_t.1 hg
          obtain ⟨⟨hb1, hb8⟩, hbr⟩ := blockB_rows hvb
          obtain ⟨⟨hy1, hy8⟩, hyr⟩ := blockB_rows hvy
          rw [headD_eq (by omega)] at hbr hyr
          obtain ⟨i0, off, rfl⟩ := hb.at (k := 0) (by omega)
          obtain ⟨i1, off1, rfl⟩ := hy.at (k := 0) (by omega)
          have hb0 : 0 < b.length := hb1
          have hy0 : 0 < by_.length := hy1
          by_cases hL : b[0].length = by_[0].length
          · have hE : duckE b by_ bound g = 0 := by
              rw [duckE, if_pos ⟨hvb, hvy⟩, if_pos ⟨hbd, hgn⟩, framesB, framesB, headD_eq hb0, headD_eq hy0, if_pos hL]
            have hM : duckM b by_ bound g = matF (duckF b by_ bound g) b.length b[0].length := by rw [duckM, if_pos hE, framesB, headD_eq hb0]
            rw [hE, hM, matF_len] at h
            have hL4 := (hbr b[0] (List.getElem_mem _)).2.1
            refine callS_post ?_
            by_cases hL0 : b[0].length = 0
            · rw [hL0] at h
              refine callS_walk tt_ok Try.func27 rfl (by kernel_rfl) ?_
              conv => whnf
              repeat' ((conv => whnf); first | (apply layValid_v; (· exact mtA); (· assumption)) | (apply must_ok; (· (first | rfl | assumption | exact decide_eq_true (by omega)))) | (apply within_t; (· omega)) | (apply odd_v; (· assumption)) | ((first | (apply vB; (case h => assumption)) | (apply vA; (case h => assumption)) | (apply vC; (case h => assumption))); (case hk => exact kpA); (case he => omega)) | ((first | (apply vI; (case h => assumption)) | (apply vG; (case h => assumption)) | (apply vK; (case h => assumption))); (case hk => exact kpA); (case he => omega); (case hp => omega); (case' g => intro hr_ hc_)) | ((first | (apply vJ; (case h => assumption)) | (apply vH; (case h => assumption)) | (apply vL; (case h => assumption))); (case hk => exact kpA); (case he => omega); (case' g => intro hr_ hc_)) | (apply drawS_auto mixed tt_ok; (· kernel_rfl)) | apply zZ | apply yA | apply yB | ((first | apply zA | apply zC | apply zE | apply zG); (· assumption)) | ((first | apply zB | apply zD | apply zF | apply zH); (· assumption)) | apply zM | apply zN | apply zO | apply zP | apply zQ | apply zR | apply zS | apply zT | apply zU | (apply zV; (· omega)) | (apply zW; (· omega)) | (apply zX; (· (first | omega | (dsimp only; omega)))) | (apply zY; (try (apply zY; apply zX; (· omega))); apply zX; (· omega); apply zX; (· (first | omega | (dsimp only; omega)))) | ((first | apply yJ | apply yK | apply yL | apply yM | apply yN | apply yO); (· exact hgA); (· exact hsA)) | ((first | apply zA | apply zC | apply zE | apply zG); (· omega)) | ((first | apply zB | apply zD | apply zF | apply zH); (· omega)) | ((first | apply zI | apply zK); (· assumption)) | ((first | apply zJ | apply zL); (· assumption)) | fail)
              conv => whnf
              apply loopS_mask tt_ok (fun (k : Nat × AHeap × List Value) => [.k, .k, .w, .k, .w, .w, .k, .w, .k, .k, .w, .w, .w, .w, .w, .w, .w, .w, .w, .w, .w, .w, .w, .w, .w, .w, .w, .w, .w, .w, .w, .w, .w, .w, .w, .w, .w, .w, .w, .w, .w, .w, .k, .p (iv k.1), .w, .w, .w, .w, .w, .w, .w, .w, .w, .w, .w, .w, .w, .w, .w, .w, .w, .w, .w, .w, .w, .w, .w, .w, .w, .w, .w, .w, .w, .w, .w, .w, .w, .w, .w, .w, .w, .w, .w, .w, .w, .w, .w, .w, .w]) (fun (k : Nat × AHeap × List Value) => k.2.1) (fun (k : Nat × AHeap × List Value) => k.1 ≤ b.length ∧ ((H.push (.cells [iv bound] true 0)).push (.cells [iv 0] true 0)).le k.2.1 ∧ k.2.2.length = k.1 ∧ k.2.1.get (H.size + 2) = some (.cells (k.2.2 ++ List.replicate (b.length - k.1) (.slice none 0 0)) true 1) ∧ H.size + 2 < k.2.1.size ∧ ∀ v ∈ k.2.2, ORowV k.2.1 (H.size + 3) v []) (fun (k : Nat × AHeap × List Value) => b.length - k.1) (⟨0, _, []⟩)
              case hst =>
                conv => whnf
                refine weakH_of (HW.refl _) ?_
                repeat' (first | exact WT.nil | refine WT.same ?_ | refine WT.drop ?_ | refine WT.int (by omega) ?_ | refine WT.eq (by assumption) ?_ | refine WT.bl (by first | assumption | (symm; assumption)) ?_ | refine WT.vv (by assumption) ?_)
              case h0 => exact ⟨by omega, leA, rfl, hgA, hoA, by simp⟩
              intro k hk
              obtain ⟨k, H1, vs⟩ := k
              obtain ⟨hk, hle1, hvl, hg1, hs1, hvs⟩ := hk
              dsimp only at hk hle1 hvl hg1 hs1 hvs ⊢
              have hleH : H.le H1 := AHeap.le.trans (AHeap.le.trans (AHeap.le_push _ _) (AHeap.le_push _ _)) hle1
              have hkp1 := hleH.kp
              by_cases hlt : k < b.length
              · have hrk := (hbr b[k] (List.getElem_mem _)).1
                have hb00 : b[k] = [] := List.eq_nil_of_length_eq_zero (by omega)
                repeat' ((conv => whnf); first | refine cloneRow_c (xs := b[k]) (by omega) mtA (fun H2 v hle2 hov _ => ?_); rw [hb00] at hov; obtain ⟨va, rfl⟩ := hov.val; (have hle12 := AHeap.le.trans hle1 hle2); (have hs2 := hle2.size); (have hg2 := (hle2.get _ hs1).trans hg1) | ((first | (apply vB; (case h => assumption)) | (apply vA; (case h => assumption)) | (apply vC; (case h => assumption))); (case hk => exact kpA); (case he => omega)) | ((first | (apply vI; (case h => assumption)) | (apply vG; (case h => assumption)) | (apply vK; (case h => assumption))); (case hk => exact kpA); (case he => omega); (case hp => omega); (case' g => intro hr_ hc_)) | ((first | (apply vJ; (case h => assumption)) | (apply vH; (case h => assumption)) | (apply vL; (case h => assumption))); (case hk => exact kpA); (case he => omega); (case' g => intro hr_ hc_)) | (apply drawS_auto mixed tt_ok; (· kernel_rfl)) | apply zZ | apply yA | apply yB | ((first | apply zA | apply zC | apply zE | apply zG); (· assumption)) | ((first | apply zB | apply zD | apply zF | apply zH); (· assumption)) | apply zM | apply zN | apply zO | apply zP | apply zQ | apply zR | apply zS | apply zT | apply zU | (apply zV; (· omega)) | (apply zW; (· omega)) | (apply zX; (· (first | omega | (dsimp only; omega)))) | (apply zY; (try (apply zY; apply zX; (· omega))); apply zX; (· omega); apply zX; (· (first | omega | (dsimp only; omega)))) | ((first | apply yJ | apply yK | apply yL | apply yM | apply yN | apply yO); (· exact hgA); (· exact hsA)) | ((first | apply zA | apply zC | apply zE | apply zG); (· omega)) | ((first | apply zB | apply zD | apply zF | apply zH); (· omega)) | ((first | apply zI | apply zK); (· assumption)) | ((first | apply zJ | apply zL); (· assumption)) | fail)
                conv => whnf
                apply Exists.intro (k + 1, _, vs ++ [.slice va 0 0])
                refine ⟨?inv, ?mu, ?wk⟩
                case wk =>
                  conv => whnf
                  refine weakH_of (HW.refl _) ?_
                  repeat' (first | exact WT.nil | refine WT.same ?_ | refine WT.drop ?_ | refine WT.int (by omega) ?_ | refine WT.eq (by assumption) ?_ | refine WT.bl (by first | assumption | (symm; assumption)) ?_ | refine WT.vv (by assumption) ?_)
                case mu => first | omega | (dsimp only; omega)
                case inv => exact ⟨by omega, leA, by simp [hvl], by
                  have hrep : List.replicate (b.length - k) (Value.slice none 0 0) = Value.slice none 0 0 :: List.replicate (b.length - (k + 1)) (Value.slice none 0 0) := by
                    rw [show b.length - k = (b.length - (k + 1)) + 1 by omega, List.replicate_succ]
                  refine Eq.trans (b := some (.cells ((vs ++ List.replicate (b.length - k) (Value.slice none 0 0)).set (0 + (k : Int).toNat * 1) (Value.slice va 0 0)) true 1)) hgA ?_
                  rw [show 0 + (k : Int).toNat * 1 = k by simp, hrep, List.set_append_right _ _ (by omega), hvl, Nat.sub_self, List.set_cons_zero, List.append_assoc]
                  rfl, by simp; omega, fun w hw => by
                  rcases List.mem_append.1 hw with hw | hw
                  · exact (hvs w hw).of_get (by simp; omega) (fun i h1 h2 => by (repeat (first | assumption | ((first | apply yP | apply yQ); (first | omega | (simp; done) | (simp; omega))) | ((first | refine (yR _ _ ?_).trans ?_ | refine (yS _ _ ?_).trans ?_ | refine (yT _ ?_).trans ?_ | refine (yU (by assumption) _ ?_).trans ?_); (· (first | omega | (simp; done) | (simp; omega)))) | exact rfl)); exact hle2.get i h2)
                  · rw [List.mem_singleton.1 hw]
                    exact (hov.base (b' := H.size + 3) (by omega)).of_get (by simp) (fun i h1 h2 => hgA)⟩
              · have hkn : k = b.length := by omega
                subst hkn
                have ge : H1.get (H.size + 1) = some (.cells [iv 0] true 0) := (hle1.get _ (by simp)).trans hgA
                repeat' ((conv => whnf); first | ((first | (apply vB; (case h => assumption)) | (apply vA; (case h => assumption)) | (apply vC; (case h => assumption))); (case hk => exact kpA); (case he => omega)) | ((first | (apply vI; (case h => assumption)) | (apply vG; (case h => assumption)) | (apply vK; (case h => assumption))); (case hk => exact kpA); (case he => omega); (case hp => omega); (case' g => intro hr_ hc_)) | ((first | (apply vJ; (case h => assumption)) | (apply vH; (case h => assumption)) | (apply vL; (case h => assumption))); (case hk => exact kpA); (case he => omega); (case' g => intro hr_ hc_)) | (apply drawS_auto mixed tt_ok; (· kernel_rfl)) | apply zZ | apply yA | apply yB | ((first | apply zA | apply zC | apply zE | apply zG); (· assumption)) | ((first | apply zB | apply zD | apply zF | apply zH); (· assumption)) | apply zM | apply zN | apply zO | apply zP | apply zQ | apply zR | apply zS | apply zT | apply zU | (apply zV; (· omega)) | (apply zW; (· omega)) | (apply zX; (· (first | omega | (dsimp only; omega)))) | (apply zY; (try (apply zY; apply zX; (· omega))); apply zX; (· omega); apply zX; (· (first | omega | (dsimp only; omega)))) | ((first | apply yJ | apply yK | apply yL | apply yM | apply yN | apply yO); (· exact hgA); (· exact hsA)) | ((first | apply zA | apply zC | apply zE | apply zG); (· omega)) | ((first | apply zB | apply zD | apply zF | apply zH); (· omega)) | ((first | apply zI | apply zK); (· assumption)) | ((first | apply zJ | apply zL); (· assumption)) | fail)
                conv => whnf
                refine loopS_mask tt_ok (fun (j : Nat) => [.k, .k, .w, .k, .w, .w, .k, .w, .k, .k, .w, .w, .w, .w, .w, .w, .w, .w, .w, .w, .w, .w, .w, .w, .w, .w, .w, .w, .w, .w, .w, .w, .w, .w, .w, .w, .w, .w, .w, .w, .w, .w, .w, .w, .w, .w, .w, .w, .w, .w, .w, .w, .w, .w, .w, .w, .w, .w, .k, .p (iv j), .w, .w, .w, .w, .w, .w, .w, .w, .w, .w, .w, .w, .w, .w, .w, .w, .w, .w, .w, .w, .w, .w, .w, .w, .w, .w, .w, .w, .w]) (fun (j : Nat) => H1) (fun (j : Nat) => j = 0) (fun (j : Nat) => j) (0) (rfl) ?_ (fun j hj => ?_)
                · conv => whnf
                  refine weakH_of (HW.refl _) ?_
                  repeat' (first | exact WT.nil | refine WT.same ?_ | refine WT.drop ?_ | refine WT.int (by omega) ?_ | refine WT.eq (by assumption) ?_ | refine WT.bl (by first | assumption | (symm; assumption)) ?_ | refine WT.vv (by assumption) ?_)
                subst hj
                repeat' ((conv => whnf); first | (apply caught_ret; (· exact hoA); (· exact hgA); intro H5 hle5 hg5) | ((first | (apply vB; (case h => assumption)) | (apply vA; (case h => assumption)) | (apply vC; (case h => assumption))); (case hk => exact kpA); (case he => omega)) | ((first | (apply vI; (case h => assumption)) | (apply vG; (case h => assumption)) | (apply vK; (case h => assumption))); (case hk => exact kpA); (case he => omega); (case hp => omega); (case' g => intro hr_ hc_)) | ((first | (apply vJ; (case h => assumption)) | (apply vH; (case h => assumption)) | (apply vL; (case h => assumption))); (case hk => exact kpA); (case he => omega); (case' g => intro hr_ hc_)) | (apply drawS_auto mixed tt_ok; (· kernel_rfl)) | apply zZ | apply yA | apply yB | ((first | apply zA | apply zC | apply zE | apply zG); (· assumption)) | ((first | apply zB | apply zD | apply zF | apply zH); (· assumption)) | apply zM | apply zN | apply zO | apply zP | apply zQ | apply zR | apply zS | apply zT | apply zU | (apply zV; (· omega)) | (apply zW; (· omega)) | (apply zX; (· (first | omega | (dsimp only; omega)))) | (apply zY; (try (apply zY; apply zX; (· omega))); apply zX; (· omega); apply zX; (· (first | omega | (dsimp only; omega)))) | ((first | apply yJ | apply yK | apply yL | apply yM | apply yN | apply yO); (· exact hgA); (· exact hsA)) | ((first | apply zA | apply zC | apply zE | apply zG); (· omega)) | ((first | apply zB | apply zD | apply zF | apply zH); (· omega)) | ((first | apply zI | apply zK); (· assumption)) | ((first | apply zJ | apply zL); (· assumption)) | fail)
                conv => whnf
                have hs5 : H1.size ≤ H5.size := hle5.size
                have hg5' : H5.get (H.size + 2) = some (.cells vs true 1) := (hle5.get _ (by simp; omega)).trans (by rw [Nat.sub_self, List.replicate_zero, List.append_nil] at hg1; (repeat (first | assumption | ((first | apply yP | apply yQ); (first | omega | (simp; done) | (simp; omega))) | ((first | refine (yR _ _ ?_).trans ?_ | refine (yS _ _ ?_).trans ?_ | refine (yT _ ?_).trans ?_ | refine (yU (by assumption) _ ?_).trans ?_); (· (first | omega | (simp; done) | (simp; omega)))) | exact rfl)))
                refine ⟨_, HW.fz _ H.size, h _ _ _ (AHeap.le.fz ?_ (Nat.le_refl _)) (empties_fz (base := H.size + 2) (by omega) (by omega) hvl hg5' ⟨hoA, hoA⟩ (fun v hv => ((hvs v hv).of_get hs5 (fun i h1 h2 => (hle5.get _ (by simp; omega)).trans hgA)).base (by omega)))⟩
                refine AHeap.le.trans ?_ hle5
                (repeat (first | exact AHeap.le.refl _ | assumption | refine AHeap.le.push ?_ _ | refine AHeap.le.set ?_ hoA _ | refine AHeap.le.kill ?_ hoA))
            · skip
              refine callS_walk tt_ok Try.func27 rfl (by kernel_rfl) ?_
              conv => whnf
              repeat' ((conv => whnf); first | (apply layValid_v; (· exact mtA); (· assumption)) | (apply must_ok; (· (first | rfl | assumption | exact decide_eq_true (by omega)))) | (apply within_t; (· omega)) | (apply odd_v; (· assumption)) | ((first | (apply vB; (case h => assumption)) | (apply vA; (case h => assumption)) | (apply vC; (case h => assumption))); (case hk => exact kpA); (case he => omega)) | ((first | (apply vI; (case h => assumption)) | (apply vG; (case h => assumption)) | (apply vK; (case h => assumption))); (case hk => exact kpA); (case he => omega); (case hp => omega); (case' g => intro hr_ hc_)) | ((first | (apply vJ; (case h => assumption)) | (apply vH; (case h => assumption)) | (apply vL; (case h => assumption))); (case hk => exact kpA); (case he => omega); (case' g => intro hr_ hc_)) | (apply drawS_auto mixed tt_ok; (· kernel_rfl)) | apply zZ | apply yA | apply yB | ((first | apply zA | apply zC | apply zE | apply zG); (· assumption)) | ((first | apply zB | apply zD | apply zF | apply zH); (· assumption)) | apply zM | apply zN | apply zO | apply zP | apply zQ | apply zR | apply zS | apply zT | apply zU | (apply zV; (· omega)) | (apply zW; (· omega)) | (apply zX; (· (first | omega | (dsimp only; omega)))) | (apply zY; (try (apply zY; apply zX; (· omega))); apply zX; (· omega); apply zX; (· (first | omega | (dsimp only; omega)))) | ((first | apply yJ | apply yK | apply yL | apply yM | apply yN | apply yO); (· exact hgA); (· exact hsA)) | ((first | apply zA | apply zC | apply zE | apply zG); (· omega)) | ((first | apply zB | apply zD | apply zF | apply zH); (· omega)) | ((first | apply zI | apply zK); (· assumption)) | ((first | apply zJ | apply zL); (· assumption)) | fail)
              conv => whnf
              apply loopS_mask tt_ok (fun (k : Nat × AHeap × List Nat) => [.k, .k, .w, .k, .w, .w, .k, .w, .k, .k, .w, .w, .w, .w, .w, .w, .w, .w, .w, .w, .w, .w, .w, .w, .w, .w, .w, .w, .w, .w, .w, .w, .w, .w, .w, .w, .w, .w, .w, .w, .w, .w, .k, .p (iv k.1), .w, .w, .w, .w, .w, .w, .w, .w, .w, .w, .w, .w, .w, .w, .w, .w, .w, .w, .w, .w, .w, .w, .w, .w, .w, .w, .w, .w, .w, .w, .w, .w, .w, .w, .w, .w, .w, .w, .w, .w, .w, .w, .w, .w, .w]) (fun (k : Nat × AHeap × List Nat) => k.2.1) (fun (k : Nat × AHeap × List Nat) => k.1 ≤ b.length ∧ ((H.push (.cells [iv bound] true 0)).push (.cells [iv 0] true 0)).le k.2.1 ∧ OMat k.2.1 (H.size + 2) (H.size + 2) k.2.2 (b.take k.1) (List.replicate (b.length - k.1) (.slice none 0 0))) (fun (k : Nat × AHeap × List Nat) => b.length - k.1) (⟨0, _, []⟩)
              case hst =>
                conv => whnf
                refine weakH_of (HW.refl _) ?_
                repeat' (first | exact WT.nil | refine WT.same ?_ | refine WT.drop ?_ | refine WT.int (by omega) ?_ | refine WT.eq (by assumption) ?_ | refine WT.bl (by first | assumption | (symm; assumption)) ?_ | refine WT.vv (by assumption) ?_)
              case h0 => exact ⟨by omega, leA, ⟨rfl, hgA, fun k h1 => absurd h1 (by simp), by simp, by simp, ⟨by omega, by simp⟩, ⟨hoA, by simp⟩⟩⟩
              intro k hk
              obtain ⟨k, H1, rs⟩ := k
              obtain ⟨hk, hle1, hom⟩ := hk
              dsimp only at hk hle1 hom ⊢
              have hleH : H.le H1 := AHeap.le.trans (AHeap.le.trans (AHeap.le_push _ _) (AHeap.le_push _ _)) hle1
              have hkp1 := hleH.kp
              have ho := hom.outer
              have hlt1 := hom.lt.1
              by_cases hlt : k < b.length
              · have hrk := (hbr b[k] (List.getElem_mem _)).1
                have hne : b[k] ≠ [] := fun e => by rw [e] at hrk; simp at hrk; omega
                have hrep : List.replicate (b.length - k) (Value.slice none 0 0) = Value.slice none 0 0 :: List.replicate (b.length - (k + 1)) (Value.slice none 0 0) := by
                  rw [show b.length - k = (b.length - (k + 1)) + 1 by omega, List.replicate_succ]
                have htl : (b.take k).length = k := by rw [List.length_take]; omega
                have hz : (zipS rs (b.take k)).length = k := by rw [zipS_len hom.len, htl]
                rw [hrep] at hom ho
                repeat' ((conv => whnf); first | refine cloneRow_c (xs := b[k]) (by omega) mtA (fun H2 v hle2 hov hv => ?_); obtain ⟨rfl, hs2, hg2⟩ := hv hne; (have hle12 := AHeap.le.trans hle1 hle2); (have ho2 := (hle2.get _ hlt1).trans ho) | ((first | (apply vB; (case h => assumption)) | (apply vA; (case h => assumption)) | (apply vC; (case h => assumption))); (case hk => exact kpA); (case he => omega)) | ((first | (apply vI; (case h => assumption)) | (apply vG; (case h => assumption)) | (apply vK; (case h => assumption))); (case hk => exact kpA); (case he => omega); (case hp => omega); (case' g => intro hr_ hc_)) | ((first | (apply vJ; (case h => assumption)) | (apply vH; (case h => assumption)) | (apply vL; (case h => assumption))); (case hk => exact kpA); (case he => omega); (case' g => intro hr_ hc_)) | (apply drawS_auto mixed tt_ok; (· kernel_rfl)) | apply zZ | apply yA | apply yB | ((first | apply zA | apply zC | apply zE | apply zG); (· assumption)) | ((first | apply zB | apply zD | apply zF | apply zH); (· assumption)) | apply zM | apply zN | apply zO | apply zP | apply zQ | apply zR | apply zS | apply zT | apply zU | (apply zV; (· omega)) | (apply zW; (· omega)) | (apply zX; (· (first | omega | (dsimp only; omega)))) | (apply zY; (try (apply zY; apply zX; (· omega))); apply zX; (· omega); apply zX; (· (first | omega | (dsimp only; omega)))) | ((first | apply yJ | apply yK | apply yL | apply yM | apply yN | apply yO); (· exact hgA); (· exact hsA)) | ((first | apply zA | apply zC | apply zE | apply zG); (· omega)) | ((first | apply zB | apply zD | apply zF | apply zH); (· omega)) | ((first | apply zI | apply zK); (· assumption)) | ((first | apply zJ | apply zL); (· assumption)) | fail)
                conv => whnf
                apply Exists.intro (k + 1, _, rs ++ [H1.size + 1])
                refine ⟨?inv, ?mu, ?wk⟩
                case wk =>
                  conv => whnf
                  refine weakH_of (HW.refl _) ?_
                  repeat' (first | exact WT.nil | refine WT.same ?_ | refine WT.drop ?_ | refine WT.int (by omega) ?_ | refine WT.eq (by assumption) ?_ | refine WT.bl (by first | assumption | (symm; assumption)) ?_ | refine WT.vv (by assumption) ?_)
                case mu => first | omega | (dsimp only; omega)
                case inv => exact ⟨by omega, leA, by
                  rw [take_succ_of hlt]
                  refine hom.put (by omega) (by simp; omega) (by simp; omega) ?_ hgA hgA (fun i hi hne => by (repeat (first | assumption | ((first | apply yP | apply yQ); (first | omega | (simp; done) | (simp; omega))) | ((first | refine (yR _ _ ?_).trans ?_ | refine (yS _ _ ?_).trans ?_ | refine (yT _ ?_).trans ?_ | refine (yU (by assumption) _ ?_).trans ?_); (· (first | omega | (simp; done) | (simp; omega)))) | exact rfl)); exact hle2.get i hi)
                  rw [htl]
                  congr 1
                  simp⟩
              · have hkn : k = b.length := by omega
                subst hkn
                rw [Nat.sub_self, List.take_length] at hom
                change OMat H1 (H.size + 2) (H.size + 2) rs b [] at hom
                rw [← matF_self (m := b) rfl (fun r hr => (hbr r hr).1)] at hom
                repeat' ((conv => whnf); first | ((first | (apply vB; (case h => assumption)) | (apply vA; (case h => assumption)) | (apply vC; (case h => assumption))); (case hk => exact kpA); (case he => omega)) | ((first | (apply vI; (case h => assumption)) | (apply vG; (case h => assumption)) | (apply vK; (case h => assumption))); (case hk => exact kpA); (case he => omega); (case hp => omega); (case' g => intro hr_ hc_)) | ((first | (apply vJ; (case h => assumption)) | (apply vH; (case h => assumption)) | (apply vL; (case h => assumption))); (case hk => exact kpA); (case he => omega); (case' g => intro hr_ hc_)) | (apply drawS_auto mixed tt_ok; (· kernel_rfl)) | apply zZ | apply yA | apply yB | ((first | apply zA | apply zC | apply zE | apply zG); (· assumption)) | ((first | apply zB | apply zD | apply zF | apply zH); (· assumption)) | apply zM | apply zN | apply zO | apply zP | apply zQ | apply zR | apply zS | apply zT | apply zU | (apply zV; (· omega)) | (apply zW; (· omega)) | (apply zX; (· (first | omega | (dsimp only; omega)))) | (apply zY; (try (apply zY; apply zX; (· omega))); apply zX; (· omega); apply zX; (· (first | omega | (dsimp only; omega)))) | ((first | apply yJ | apply yK | apply yL | apply yM | apply yN | apply yO); (· exact hgA); (· exact hsA)) | ((first | apply zA | apply zC | apply zE | apply zG); (· omega)) | ((first | apply zB | apply zD | apply zF | apply zH); (· omega)) | ((first | apply zI | apply zK); (· assumption)) | ((first | apply zJ | apply zL); (· assumption)) | fail)
                conv => whnf
                refine loopS_mask tt_ok (fun (j : Nat × AHeap) => [.k, .k, .w, .k, .w, .w, .k, .w, .k, .k, .w, .w, .w, .w, .w, .w, .w, .w, .w, .w, .w, .w, .w, .w, .w, .w, .w, .w, .w, .w, .w, .w, .w, .w, .w, .w, .w, .w, .w, .w, .w, .w, .w, .w, .w, .w, .w, .w, .w, .w, .w, .w, .w, .w, .w, .w, .w, .w, .k, .p (iv j.1), .w, .w, .w, .w, .w, .w, .w, .w, .w, .w, .w, .w, .w, .w, .w, .w, .w, .w, .w, .w, .w, .w, .w, .w, .w, .w, .w, .w, .w]) (fun (j : Nat × AHeap) => j.2) (fun (j : Nat × AHeap) => j.1 ≤ b[0].length ∧ ((H.push (.cells [iv bound] true 0)).push (.cells [iv 0] true 0)).le j.2 ∧ OMat j.2 (H.size + 2) (H.size + 2) rs (matF (fun k c => if c < j.1 then duckF b by_ bound g k c else at2 b k c) b.length b[0].length) []) (fun (j : Nat × AHeap) => b[0].length - j.1) (⟨0, H1⟩) (⟨by omega, hle1, hom.cast _ (fun i hi c hc => by simp)⟩) ?_ (fun j hj => ?_)
                · conv => whnf
                  refine weakH_of (HW.refl _) ?_
                  repeat' (first | exact WT.nil | refine WT.same ?_ | refine WT.drop ?_ | refine WT.int (by omega) ?_ | refine WT.eq (by assumption) ?_ | refine WT.bl (by first | assumption | (symm; assumption)) ?_ | refine WT.vv (by assumption) ?_)
                obtain ⟨j, H2⟩ := j
                obtain ⟨hj, hle2, hom2⟩ := hj
                dsimp only at hj hle2 hom2 ⊢
                have hleH2 : H.le H2 := AHeap.le.trans (AHeap.le.trans (AHeap.le_push _ _) (AHeap.le_push _ _)) hle2
                have hkp2 := hleH2.kp
                have hlt2 := hom2.lt.2
                have hs2 : H.size + 2 ≤ H2.size := hle2.size
                have gb : H2.get H.size = some (.cells [iv bound] true 0) := (hle2.get _ (by simp; omega)).trans hgA
                by_cases hlj : j < b[0].length
                · have hyj : ∀ r ∈ by_, j < r.length := fun r hr => by have := (hyr r hr).1; omega
                  cases hq : loudB by_ bound j with
                  | true =>
                    repeat' ((conv => whnf); first | refine loud_c mtA hyj (fun r hr => (hyr r hr).2.2) hgA hgA hq ?_ | ((first | (apply vB; (case h => assumption)) | (apply vA; (case h => assumption)) | (apply vC; (case h => assumption))); (case hk => exact kpA); (case he => omega)) | ((first | (apply vI; (case h => assumption)) | (apply vG; (case h => assumption)) | (apply vK; (case h => assumption))); (case hk => exact kpA); (case he => omega); (case hp => omega); (case' g => intro hr_ hc_)) | ((first | (apply vJ; (case h => assumption)) | (apply vH; (case h => assumption)) | (apply vL; (case h => assumption))); (case hk => exact kpA); (case he => omega); (case' g => intro hr_ hc_)) | (apply drawS_auto mixed tt_ok; (· kernel_rfl)) | apply zZ | apply yA | apply yB | ((first | apply zA | apply zC | apply zE | apply zG); (· assumption)) | ((first | apply zB | apply zD | apply zF | apply zH); (· assumption)) | apply zM | apply zN | apply zO | apply zP | apply zQ | apply zR | apply zS | apply zT | apply zU | (apply zV; (· omega)) | (apply zW; (· omega)) | (apply zX; (· (first | omega | (dsimp only; omega)))) | (apply zY; (try (apply zY; apply zX; (· omega))); apply zX; (· omega); apply zX; (· (first | omega | (dsimp only; omega)))) | ((first | apply yJ | apply yK | apply yL | apply yM | apply yN | apply yO); (· exact hgA); (· exact hsA)) | ((first | apply zA | apply zC | apply zE | apply zG); (· omega)) | ((first | apply zB | apply zD | apply zF | apply zH); (· omega)) | ((first | apply zI | apply zK); (· assumption)) | ((first | apply zJ | apply zL); (· assumption)) | fail)
                    conv => whnf
                    apply loopS_mask tt_ok (fun (k : Nat × AHeap) => [.k, .k, .w, .k, .w, .w, .k, .w, .k, .k, .w, .k, .w, .w, .w, .w, .w, .w, .w, .w, .w, .w, .w, .w, .w, .w, .w, .w, .w, .w, .w, .w, .w, .w, .w, .w, .w, .w, .w, .w, .w, .w, .w, .w, .w, .w, .w, .w, .w, .w, .w, .w, .w, .w, .w, .w, .w, .w, .k, .k, .w, .w, .w, .w, .w, .w, .w, .k, .p (iv k.1), .w, .w, .w, .w, .w, .w, .w, .w, .w, .w, .w, .w, .w, .w, .w, .w, .w, .w, .w, .w]) (fun (k : Nat × AHeap) => k.2) (fun (k : Nat × AHeap) => k.1 ≤ b.length ∧ ((H.push (.cells [iv bound] true 0)).push (.cells [iv 0] true 0)).le k.2 ∧ k.2.get H2.size = some (.cells [iv j] true 0) ∧ OMat k.2 (H.size + 2) (H.size + 2) rs (matF (fun i c => if c < j ∨ (c = j ∧ i < k.1) then duckF b by_ bound g i c else at2 b i c) b.length b[0].length) []) (fun (k : Nat × AHeap) => b.length - k.1) (⟨0, _⟩)
                    case hst =>
                      conv => whnf
                      refine weakH_of (HW.refl _) ?_
                      repeat' (first | exact WT.nil | refine WT.same ?_ | refine WT.drop ?_ | refine WT.int (by omega) ?_ | refine WT.eq (by assumption) ?_ | refine WT.bl (by first | assumption | (symm; assumption)) ?_ | refine WT.vv (by assumption) ?_)
                    case h0 => exact ⟨by omega, leA, hgA, (hom2.of_get (by simp) (fun i hi _ => hgA)).cast _ (fun i hi c hc => by simp)⟩
                    intro k hk
                    obtain ⟨k, H3⟩ := k
                    obtain ⟨hk, hle3, hi3, hom3⟩ := hk
                    dsimp only at hk hle3 hi3 hom3 ⊢
                    have hkp3 := (AHeap.le.trans (AHeap.le.trans (AHeap.le_push _ _) (AHeap.le_push _ _)) hle3 : H.le H3).kp
                    by_cases hlk : k < b.length
                    · have hrk := hbr b[k] (List.getElem_mem _)
                      have hjk : j < b[k].length := by omega
                      have hx := hrk.2.2 _ (List.getElem_mem hjk)
                      have hv : applyF b[k][j] g = duckF b by_ bound g k j := by rw [duckF, if_pos hq, at2_eq hlk hjk]
                      have hno : H2.size ∉ rs := fun hm => by have := hlt2 _ hm; omega
                      repeat' ((conv => whnf); first | refine hom3.row hlk ?_ | refine apply_c hx hgn ?_ | refine hom3.put2 hlk hlj (fun i c => if c < j ∨ (c = j ∧ i < k + 1) then duckF b by_ bound g i c else at2 b i c) (fun i hi c hc => ?_) (fun H5 hom5 hkp5 => ?_); exact duck_aux hv i c | ((first | (apply vB; (case h => assumption)) | (apply vA; (case h => assumption)) | (apply vC; (case h => assumption))); (case hk => exact kpA); (case he => omega)) | ((first | (apply vI; (case h => assumption)) | (apply vG; (case h => assumption)) | (apply vK; (case h => assumption))); (case hk => exact kpA); (case he => omega); (case hp => omega); (case' g => intro hr_ hc_)) | ((first | (apply vJ; (case h => assumption)) | (apply vH; (case h => assumption)) | (apply vL; (case h => assumption))); (case hk => exact kpA); (case he => omega); (case' g => intro hr_ hc_)) | (apply drawS_auto mixed tt_ok; (· kernel_rfl)) | apply zZ | apply yA | apply yB | ((first | apply zA | apply zC | apply zE | apply zG); (· assumption)) | ((first | apply zB | apply zD | apply zF | apply zH); (· assumption)) | apply zM | apply zN | apply zO | apply zP | apply zQ | apply zR | apply zS | apply zT | apply zU | (apply zV; (· omega)) | (apply zW; (· omega)) | (apply zX; (· (first | omega | (dsimp only; omega)))) | (apply zY; (try (apply zY; apply zX; (· omega))); apply zX; (· omega); apply zX; (· (first | omega | (dsimp only; omega)))) | ((first | apply yJ | apply yK | apply yL | apply yM | apply yN | apply yO); (· exact hgA); (· exact hsA)) | ((first | apply zA | apply zC | apply zE | apply zG); (· omega)) | ((first | apply zB | apply zD | apply zF | apply zH); (· omega)) | ((first | apply zI | apply zK); (· assumption)) | ((first | apply zJ | apply zL); (· assumption)) | fail)
                      conv => whnf
                      apply Exists.intro (k + 1, H5)
                      refine ⟨?inv, ?mu, ?wk⟩
                      case wk =>
                        conv => whnf
                        refine weakH_of (HW.refl _) ?_
                        repeat' (first | exact WT.nil | refine WT.same ?_ | refine WT.drop ?_ | refine WT.int (by omega) ?_ | refine WT.eq (by assumption) ?_ | refine WT.bl (by first | assumption | (symm; assumption)) ?_ | refine WT.vv (by assumption) ?_)
                      case mu => first | omega | (dsimp only; omega)
                      case inv => exact ⟨by omega, hkp5.le _ (by simp) hle3, (hkp5.get _ hno).trans hi3, hom5⟩
                    · have hkn : k = b.length := by omega
                      subst hkn
                      repeat' ((conv => whnf); first | ((first | (apply vB; (case h => assumption)) | (apply vA; (case h => assumption)) | (apply vC; (case h => assumption))); (case hk => exact kpA); (case he => omega)) | ((first | (apply vI; (case h => assumption)) | (apply vG; (case h => assumption)) | (apply vK; (case h => assumption))); (case hk => exact kpA); (case he => omega); (case hp => omega); (case' g => intro hr_ hc_)) | ((first | (apply vJ; (case h => assumption)) | (apply vH; (case h => assumption)) | (apply vL; (case h => assumption))); (case hk => exact kpA); (case he => omega); (case' g => intro hr_ hc_)) | (apply drawS_auto mixed tt_ok; (· kernel_rfl)) | apply zZ | apply yA | apply yB | ((first | apply zA | apply zC | apply zE | apply zG); (· assumption)) | ((first | apply zB | apply zD | apply zF | apply zH); (· assumption)) | apply zM | apply zN | apply zO | apply zP | apply zQ | apply zR | apply zS | apply zT | apply zU | (apply zV; (· omega)) | (apply zW; (· omega)) | (apply zX; (· (first | omega | (dsimp only; omega)))) | (apply zY; (try (apply zY; apply zX; (· omega))); apply zX; (· omega); apply zX; (· (first | omega | (dsimp only; omega)))) | ((first | apply yJ | apply yK | apply yL | apply yM | apply yN | apply yO); (· exact hgA); (· exact hsA)) | ((first | apply zA | apply zC | apply zE | apply zG); (· omega)) | ((first | apply zB | apply zD | apply zF | apply zH); (· omega)) | ((first | apply zI | apply zK); (· assumption)) | ((first | apply zJ | apply zL); (· assumption)) | fail)
                      conv => whnf
                      apply Exists.intro (j + 1, H3)
                      refine ⟨?inv, ?mu, ?wk⟩
                      case wk =>
                        conv => whnf
                        refine weakH_of (HW.refl _) ?_
                        repeat' (first | exact WT.nil | refine WT.same ?_ | refine WT.drop ?_ | refine WT.int (by omega) ?_ | refine WT.eq (by assumption) ?_ | refine WT.bl (by first | assumption | (symm; assumption)) ?_ | refine WT.vv (by assumption) ?_)
                      case mu => first | omega | (dsimp only; omega)
                      case inv => exact ⟨by omega, hle3, hom3.cast _ (fun i hi c hc => by
                        have : (c < j ∨ c = j ∧ i < b.length) ↔ c < j + 1 := by omega
                        simp [this])⟩
                  | false =>
                    repeat' ((conv => whnf); first | refine loud_c mtA hyj (fun r hr => (hyr r hr).2.2) hgA hgA hq ?_ | ((first | (apply vB; (case h => assumption)) | (apply vA; (case h => assumption)) | (apply vC; (case h => assumption))); (case hk => exact kpA); (case he => omega)) | ((first | (apply vI; (case h => assumption)) | (apply vG; (case h => assumption)) | (apply vK; (case h => assumption))); (case hk => exact kpA); (case he => omega); (case hp => omega); (case' g => intro hr_ hc_)) | ((first | (apply vJ; (case h => assumption)) | (apply vH; (case h => assumption)) | (apply vL; (case h => assumption))); (case hk => exact kpA); (case he => omega); (case' g => intro hr_ hc_)) | (apply drawS_auto mixed tt_ok; (· kernel_rfl)) | apply zZ | apply yA | apply yB | ((first | apply zA | apply zC | apply zE | apply zG); (· assumption)) | ((first | apply zB | apply zD | apply zF | apply zH); (· assumption)) | apply zM | apply zN | apply zO | apply zP | apply zQ | apply zR | apply zS | apply zT | apply zU | (apply zV; (· omega)) | (apply zW; (· omega)) | (apply zX; (· (first | omega | (dsimp only; omega)))) | (apply zY; (try (apply zY; apply zX; (· omega))); apply zX; (· omega); apply zX; (· (first | omega | (dsimp only; omega)))) | ((first | apply yJ | apply yK | apply yL | apply yM | apply yN | apply yO); (· exact hgA); (· exact hsA)) | ((first | apply zA | apply zC | apply zE | apply zG); (· omega)) | ((first | apply zB | apply zD | apply zF | apply zH); (· omega)) | ((first | apply zI | apply zK); (· assumption)) | ((first | apply zJ | apply zL); (· assumption)) | fail)
                    conv => whnf
                    apply Exists.intro (j + 1, _)
                    refine ⟨?inv, ?mu, ?wk⟩
                    case wk =>
                      conv => whnf
                      refine weakH_of (HW.refl _) ?_
                      repeat' (first | exact WT.nil | refine WT.same ?_ | refine WT.drop ?_ | refine WT.int (by omega) ?_ | refine WT.eq (by assumption) ?_ | refine WT.bl (by first | assumption | (symm; assumption)) ?_ | refine WT.vv (by assumption) ?_)
                    case mu => first | omega | (dsimp only; omega)
                    case inv => exact ⟨by omega, leA, (hom2.of_get (by simp) (fun i hi _ => hgA)).cast _ (fun i hi c hc => by
                      by_cases h1 : c < j
                      · rw [if_pos h1, if_pos (by omega)]
                      · rw [if_neg h1]
                        by_cases h2 : c < j + 1
                        · have : c = j := by omega
                          subst this
                          rw [if_pos h2, duckF, if_neg (by rw [hq]; simp)]
                        · rw [if_neg h2])⟩
                · have hjl : j = b[0].length := by omega
                  subst hjl
                  have ge : H2.get (H.size + 1) = some (.cells [iv 0] true 0) := (hle2.get _ (by simp)).trans hgA
                  repeat' ((conv => whnf); first | (apply caught_ret; (· exact hoA); (· exact hgA); intro H5 hle5 hg5) | ((first | (apply vB; (case h => assumption)) | (apply vA; (case h => assumption)) | (apply vC; (case h => assumption))); (case hk => exact kpA); (case he => omega)) | ((first | (apply vI; (case h => assumption)) | (apply vG; (case h => assumption)) | (apply vK; (case h => assumption))); (case hk => exact kpA); (case he => omega); (case hp => omega); (case' g => intro hr_ hc_)) | ((first | (apply vJ; (case h => assumption)) | (apply vH; (case h => assumption)) | (apply vL; (case h => assumption))); (case hk => exact kpA); (case he => omega); (case' g => intro hr_ hc_)) | (apply drawS_auto mixed tt_ok; (· kernel_rfl)) | apply zZ | apply yA | apply yB | ((first | apply zA | apply zC | apply zE | apply zG); (· assumption)) | ((first | apply zB | apply zD | apply zF | apply zH); (· assumption)) | apply zM | apply zN | apply zO | apply zP | apply zQ | apply zR | apply zS | apply zT | apply zU | (apply zV; (· omega)) | (apply zW; (· omega)) | (apply zX; (· (first | omega | (dsimp only; omega)))) | (apply zY; (try (apply zY; apply zX; (· omega))); apply zX; (· omega); apply zX; (· (first | omega | (dsimp only; omega)))) | ((first | apply yJ | apply yK | apply yL | apply yM | apply yN | apply yO); (· exact hgA); (· exact hsA)) | ((first | apply zA | apply zC | apply zE | apply zG); (· omega)) | ((first | apply zB | apply zD | apply zF | apply zH); (· omega)) | ((first | apply zI | apply zK); (· assumption)) | ((first | apply zJ | apply zL); (· assumption)) | fail)
                  conv => whnf
                  have hom5 := (hom2.set_lo (by simp) _).le hle5
                  have hom6 := hom5.cast (duckF b by_ bound g) (fun i hi c hc => by simp [hc])
                  refine ⟨_, HW.fz _ H.size, h _ _ _ (AHeap.le.fz ?_ (Nat.le_refl _)) (hom6.fzF (by omega) (by unfold maxN; omega) (by unfold maxN; omega) (fun i _ c _ => duckF_bd hvb i c))⟩
                  refine AHeap.le.trans ?_ hle5
                  (repeat (first | exact AHeap.le.refl _ | assumption | refine AHeap.le.push ?_ _ | refine AHeap.le.set ?_ hoA _ | refine AHeap.le.kill ?_ hoA))
          · have hE : duckE b by_ bound g = 11 := by
              rw [duckE, if_pos ⟨hvb, hvy⟩, if_pos ⟨hbd, hgn⟩, framesB, framesB, headD_eq hb0, headD_eq hy0, if_neg hL]
            refine callS_walk tt_ok Try.func27 rfl (by kernel_rfl) ?_
            conv => whnf
            repeat' ((conv => whnf); first | (apply layValid_v; (· exact mtA); (· assumption)) | (apply must_ok; (· (first | rfl | assumption | exact decide_eq_true (by omega)))) | (apply within_t; (· omega)) | (apply odd_v; (· assumption)) | (apply must_no; (· (first | rfl | assumption | exact decide_eq_false (by omega)))) | (apply caught_panic; (· exact hoA); (· exact hgA); intro H2 hle2 hg2) | ((first | (apply vB; (case h => assumption)) | (apply vA; (case h => assumption)) | (apply vC; (case h => assumption))); (case hk => exact kpA); (case he => omega)) | ((first | (apply vI; (case h => assumption)) | (apply vG; (case h => assumption)) | (apply vK; (case h => assumption))); (case hk => exact kpA); (case he => omega); (case hp => omega); (case' g => intro hr_ hc_)) | ((first | (apply vJ; (case h => assumption)) | (apply vH; (case h => assumption)) | (apply vL; (case h => assumption))); (case hk => exact kpA); (case he => omega); (case' g => intro hr_ hc_)) | (apply drawS_auto mixed tt_ok; (· kernel_rfl)) | apply zZ | apply yA | apply yB | ((first | apply zA | apply zC | apply zE | apply zG); (· assumption)) | ((first | apply zB | apply zD | apply zF | apply zH); (· assumption)) | apply zM | apply zN | apply zO | apply zP | apply zQ | apply zR | apply zS | apply zT | apply zU | (apply zV; (· omega)) | (apply zW; (· omega)) | (apply zX; (· (first | omega | (dsimp only; omega)))) | (apply zY; (try (apply zY; apply zX; (· omega))); apply zX; (· omega); apply zX; (· (first | omega | (dsimp only; omega)))) | ((first | apply yJ | apply yK | apply yL | apply yM | apply yN | apply yO); (· exact hgA); (· exact hsA)) | ((first | apply zA | apply zC | apply zE | apply zG); (· omega)) | ((first | apply zB | apply zD | apply zF | apply zH); (· omega)) | ((first | apply zI | apply zK); (· assumption)) | ((first | apply zJ | apply zL); (· assumption)) | fail)
            conv => whnf
            exact bad_ 11 hE (by omega) _ (AHeap.le.trans leA hle2)
      · have hE : duckE b by_ bound g = 7 := by
          rw [duckE, if_pos ⟨hvb, hvy⟩, if_neg (fun hh => hbd hh.1)]
        refine callS_walk tt_ok Try.func27 rfl (by kernel_rfl) ?_
        conv => whnf
        repeat' ((conv => whnf); first | (apply layValid_v; (· exact mtA); (· assumption)) | (apply must_ok; (· (first | rfl | assumption | exact decide_eq_true (by omega)))) | (apply within_f; (· omega)) | (apply must_no; (· (first | rfl | assumption | exact decide_eq_false (by omega)))) | (apply caught_panic; (· exact hoA); (· exact hgA); intro H2 hle2 hg2) | ((first | (apply vB; (case h => assumption)) | (apply vA; (case h => assumption)) | (apply vC; (case h => assumption))); (case hk => exact kpA); (case he => omega)) | ((first | (apply vI; (case h => assumption)) | (apply vG; (case h => assumption)) | (apply vK; (case h => assumption))); (case hk => exact kpA); (case he => omega); (case hp => omega); (case' g => intro hr_ hc_)) | ((first | (apply vJ; (case h => assumption)) | (apply vH; (case h => assumption)) | (apply vL; (case h => assumption))); (case hk => exact kpA); (case he => omega); (case' g => intro hr_ hc_)) | (apply drawS_auto mixed tt_ok; (· kernel_rfl)) | apply zZ | apply yA | apply yB | ((first | apply zA | apply zC | apply zE | apply zG); (· assumption)) | ((first | apply zB | apply zD | apply zF | apply zH); (· assumption)) | apply zM | apply zN | apply zO | apply zP | apply zQ | apply zR | apply zS | apply zT | apply zU | (apply zV; (· omega)) | (apply zW; (· omega)) | (apply zX; (· (first | omega | (dsimp only; omega)))) | (apply zY; (try (apply zY; apply zX; (· omega))); apply zX; (· omega); apply zX; (· (first | omega | (dsimp only; omega)))) | ((first | apply yJ | apply yK | apply yL | apply yM | apply yN | apply yO); (· exact hgA); (· exact hsA)) | ((first | apply zA | apply zC | apply zE | apply zG); (· omega)) | ((first | apply zB | apply zD | apply zF | apply zH); (· omega)) | ((first | apply zI | apply zK); (· assumption)) | ((first | apply zJ | apply zL); (· assumption)) | fail)
        conv => whnf
        exact bad_ 7 hE (by omega) _ (AHeap.le.trans leA hle2)
end Go.Abs
