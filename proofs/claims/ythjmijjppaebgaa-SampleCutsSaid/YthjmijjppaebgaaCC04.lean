/- Contract of Cut where no frame is left. -/
import Derived.Test.YthjmijjppaebgaaBB04
set_option linter.all false
set_option maxHeartbeats 1000000
set_option maxRecDepth 20000
namespace Go.Abs
open Go Go.Proofs

theorem OSl.later {α : Type} {R : VR α} (hR : MonoR R) {H H' : AHeap} {base : Nat} {v : Value} {xs : List α} (h : OSl R H base v xs) (hk : Kp H H') (hg : ∀ i, base ≤ i → i < H.size → H'.get i = H.get i) : OSl R H' base v xs := by
  rcases h with ⟨h1, h2⟩ | ⟨o, vs, h1, h2, h3, h4, h5, h6⟩
  · exact .inl ⟨h1, h2⟩
  · exact .inr ⟨o, vs, h1, (hg o h5 h6).trans h2, h3, fun k a b => hR _ _ _ _ hk (h4 k a b), h5, Nat.lt_of_lt_of_le h6 hk.size⟩
theorem cutNil_rows (f : Nat) (r : List Int) : cutR f f r = [] := by unfold cutR; simp
theorem cutNil_c {a : Option Addr} {c f : Nat} {m : List (List Int)} {H : AHeap} {K : CK} (hx : Mat H a m) (hv : blockB m = true) (hft : f ≤ framesB m)
    (h : ∀ H' p, H.le H' → Mat H' p (cutM f f m) → K (.returned (.tuple #[.slice p m.length m.length, iv 0])) H') : callS P (fnV 33) [.slice a m.length c, iv f, iv f] H K := by
  obtain ⟨hC, hN, hR⟩ := cut_rows hv
  have hfr := frames0 (m := m) (by omega)
  have hft2 : f ≤ m[0].length := by omega
  obtain ⟨i0, off, rfl⟩ := hx.at (k := 0) (by omega)
  have hql := cutM_len f f m
  obtain ⟨q, hq⟩ : ∃ q, q = cutM f f m := ⟨_, rfl⟩
  rw [← hq] at hql h
  have hqg : ∀ k (h1 : k < m.length), q[k]'(by omega) = [] := by
    subst hq
    intro k h1
    rw [cutM_get h1, cutNil_rows]
  refine callS_post ?_
  refine callS_walk tt_ok Try.func33 rfl (by kernel_rfl) ?_
  conv => whnf
  repeat' ((conv => whnf); first | (apply layValid_v; (· exact mtA); (· with_reducible assumption)) | (apply must_ok; (· (first | rfl | assumption | exact decide_eq_true (by omega)))) | ((first | (apply vB; (case h => with_reducible assumption)) | (apply vA; (case h => with_reducible assumption)) | (apply vC; (case h => with_reducible assumption))); (case hk => exact kpA); (case he => omega)) | ((first | (apply vI; (case h => with_reducible assumption)) | (apply vG; (case h => with_reducible assumption)) | (apply vK; (case h => with_reducible assumption))); (case hk => exact kpA); (case he => omega); (case hp => omega); (case' g => intro hr_ hc_)) | ((first | (apply vJ; (case h => with_reducible assumption)) | (apply vH; (case h => with_reducible assumption)) | (apply vL; (case h => with_reducible assumption))); (case hk => exact kpA); (case he => omega); (case' g => intro hr_ hc_)) | (apply drawS_auto mixed tt_ok; (· kernel_rfl)) | apply zZ | apply yA | apply yB | ((first | apply zA | apply zC | apply zE | apply zG); (· with_reducible assumption)) | ((first | apply zB | apply zD | apply zF | apply zH); (· with_reducible assumption)) | apply zM | apply zN | apply zO | apply zP | apply zQ | apply zR | apply zS | apply zT | apply zU | (apply zV; (· omega)) | (apply zW; (· omega)) | (apply zX; (· (first | omega | (dsimp only; omega)))) | (apply zY; (try (apply zY; apply zX; (· omega))); apply zX; (· omega); apply zX; (· (first | omega | (dsimp only; omega)))) | ((first | apply yJ | apply yK | apply yL | apply yM | apply yN | apply yO); (· exact hgA); (· exact hsA)) | (apply yNP; (· exact hgA); (· exact hsA)) | ((first | apply zA | apply zC | apply zE | apply zG); (· omega)) | ((first | apply zB | apply zD | apply zF | apply zH); (· omega)) | ((first | apply zI | apply zK); (· with_reducible assumption)) | ((first | apply zJ | apply zL); (· with_reducible assumption)) | fail)
  conv => whnf
  generalize hH0 : H.push _ = H0
  have hle0 : H.le H0 := by subst hH0; exact AHeap.le.push (AHeap.le.refl _) _
  have ge0 : H0.get H.size = some (.cells [iv 0] true 0) := by subst hH0; exact AHeap.push_new _ _
  have hz0 : H0.size = H.size + 1 := by subst hH0; exact AHeap.push_size _ _
  refine loopS_mask tt_ok (fun (k : Nat × AHeap × Value) => [.w, .p (iv f), .p (iv f), .w, .w, .w, .p (k.2.2), .p (.pointer (some ⟨H.size, 0, none⟩)), .w, .w, .w, .w, .w, .w, .w, .w, .w, .w, .w, .w, .w, .w, .w, .w, .w, .w, .w, .w, .w, .p (.slice (some ⟨i0, off, none⟩) m.length c), .p (iv m.length), .p (iv k.1), .w, .w, .w, .w, .w, .w, .w, .w, .w, .w, .w, .w, .w]) (fun (k : Nat × AHeap × Value) => k.2.1) (fun (k : Nat × AHeap × Value) => k.1 ≤ m.length ∧ H0.le k.2.1 ∧ OSl RRow k.2.1 H0.size k.2.2 (q.take k.1)) (fun (k : Nat × AHeap × Value) => m.length - k.1) (⟨0, H0, .slice none 0 0⟩) (⟨by omega, AHeap.le.refl _, OSl.nil⟩) ?_ (fun k hk => ?_)
  · conv => whnf
    refine weakH_of (HW.refl _) ?_
    repeat' (first | exact WT.nil | refine WT.same ?_ | refine WT.drop ?_ | refine WT.int (by omega) ?_ | refine WT.eq (by assumption) ?_ | refine WT.bl (by first | assumption | (symm; assumption)) ?_ | refine WT.vv (by assumption) ?_)
  obtain ⟨k, H1, v⟩ := k
  obtain ⟨hk, hle, hos⟩ := hk
  dsimp only at hk hle hos ⊢
  have hsz := hle.size
  have hH1 := AHeap.le.trans hle0 hle
  have hkp := hH1.kp
  by_cases hlt : k < m.length
  · have hrl := (hR m[k] (List.getElem_mem _)).1
    have hts := take_succ_of (xs := q) (k := k) (by omega)
    rw [hqg k hlt] at hts
    have htl : (q.take k).length = k := by rw [List.length_take]; omega
    have hrL : ([] : List Int).length ≤ maxN := by unfold maxN; simp
    have hrR : ∀ x ∈ ([] : List Int), inR x := fun x hx => by simp at hx
    rcases hos with ⟨rfl, hm0⟩ | ⟨o, vs, rfl, hoo, hvl, hvs, hol, hoh⟩
    · skip
      repeat' ((conv => whnf); first | (refine loadK_matS hx ?_ hlt (fun he_ => ?_) (fun ri ro rc hrow hcap => ?_); (· exact kpA)) | ((first | (apply vB; (case h => with_reducible assumption)) | (apply vA; (case h => with_reducible assumption)) | (apply vC; (case h => with_reducible assumption))); (case hk => exact kpA); (case he => omega)) | ((first | (apply vI; (case h => with_reducible assumption)) | (apply vG; (case h => with_reducible assumption)) | (apply vK; (case h => with_reducible assumption))); (case hk => exact kpA); (case he => omega); (case hp => omega); (case' g => intro hr_ hc_)) | ((first | (apply vJ; (case h => with_reducible assumption)) | (apply vH; (case h => with_reducible assumption)) | (apply vL; (case h => with_reducible assumption))); (case hk => exact kpA); (case he => omega); (case' g => intro hr_ hc_)) | (apply drawS_auto mixed tt_ok; (· kernel_rfl)) | apply zZ | apply yA | apply yB | ((first | apply zA | apply zC | apply zE | apply zG); (· with_reducible assumption)) | ((first | apply zB | apply zD | apply zF | apply zH); (· with_reducible assumption)) | apply zM | apply zN | apply zO | apply zP | apply zQ | apply zR | apply zS | apply zT | apply zU | (apply zV; (· omega)) | (apply zW; (· omega)) | (apply zX; (· (first | omega | (dsimp only; omega)))) | (apply zY; (try (apply zY; apply zX; (· omega))); apply zX; (· omega); apply zX; (· (first | omega | (dsimp only; omega)))) | ((first | apply yJ | apply yK | apply yL | apply yM | apply yN | apply yO); (· exact hgA); (· exact hsA)) | (apply yNP; (· exact hgA); (· exact hsA)) | ((first | apply zA | apply zC | apply zE | apply zG); (· omega)) | ((first | apply zB | apply zD | apply zF | apply zH); (· omega)) | ((first | apply zI | apply zK); (· with_reducible assumption)) | ((first | apply zJ | apply zL); (· with_reducible assumption)) | fail)
      conv => whnf
      · obtain rfl : f = 0 := by omega
        repeat' ((conv => whnf); first | (refine cloneRow_w (xs := []) ?_ ?_ (.nil) (fun H2 v2 hle2 hv2 hv3 => ?_); (· simp); (· simp); (have hs2 := hle2.size); (have hle02 := AHeap.le.trans hle hle2); (have hyN : RRow H2 [.slice none 0 0] [] := ⟨none, 0, rfl, .nil, ⟨fun _ => rfl, by simp⟩⟩); (rcases hv2 with ⟨rfl, _⟩ | ⟨ou, rfl, gu, hu1, hu2⟩)) | ((first | (apply vB; (case h => with_reducible assumption)) | (apply vA; (case h => with_reducible assumption)) | (apply vC; (case h => with_reducible assumption))); (case hk => exact kpA); (case he => omega)) | ((first | (apply vI; (case h => with_reducible assumption)) | (apply vG; (case h => with_reducible assumption)) | (apply vK; (case h => with_reducible assumption))); (case hk => exact kpA); (case he => omega); (case hp => omega); (case' g => intro hr_ hc_)) | ((first | (apply vJ; (case h => with_reducible assumption)) | (apply vH; (case h => with_reducible assumption)) | (apply vL; (case h => with_reducible assumption))); (case hk => exact kpA); (case he => omega); (case' g => intro hr_ hc_)) | (apply drawS_auto mixed tt_ok; (· kernel_rfl)) | apply zZ | apply yA | apply yB | ((first | apply zA | apply zC | apply zE | apply zG); (· with_reducible assumption)) | ((first | apply zB | apply zD | apply zF | apply zH); (· with_reducible assumption)) | apply zM | apply zN | apply zO | apply zP | apply zQ | apply zR | apply zS | apply zT | apply zU | (apply zV; (· omega)) | (apply zW; (· omega)) | (apply zX; (· (first | omega | (dsimp only; omega)))) | (apply zY; (try (apply zY; apply zX; (· omega))); apply zX; (· omega); apply zX; (· (first | omega | (dsimp only; omega)))) | ((first | apply yJ | apply yK | apply yL | apply yM | apply yN | apply yO); (· exact hgA); (· exact hsA)) | (apply yNP; (· exact hgA); (· exact hsA)) | ((first | apply zA | apply zC | apply zE | apply zG); (· omega)) | ((first | apply zB | apply zD | apply zF | apply zH); (· omega)) | ((first | apply zI | apply zK); (· with_reducible assumption)) | ((first | apply zJ | apply zL); (· with_reducible assumption)) | fail)
        conv => whnf
        · skip
          apply Exists.intro (k + 1, _, _)
          refine ⟨?inv, ?mu, ?wk⟩
          case wk =>
            conv => whnf
            refine weakH_of (HW.refl _) ?_
            repeat' (first | exact WT.nil | refine WT.same ?_ | refine WT.drop ?_ | refine WT.int (by omega) ?_ | refine WT.eq (by assumption) ?_ | refine WT.bl (by first | assumption | (symm; assumption)) ?_ | refine WT.vv (by assumption) ?_)
          case mu => first | omega | (dsimp only; omega)
          case inv => exact ⟨by omega, leA, by rw [hts, hm0]; exact OSl.one hgA (rSl_mono rInt_mono _ _ _ _ kpA hyN) ⟨hoA, hoA⟩⟩
        · skip
          apply Exists.intro (k + 1, _, _)
          refine ⟨?inv, ?mu, ?wk⟩
          case wk =>
            conv => whnf
            refine weakH_of (HW.freeze (i := ou) hgA) ?_
            repeat' (first | exact WT.nil | refine WT.same ?_ | refine WT.drop ?_ | refine WT.int (by omega) ?_ | refine WT.eq (by assumption) ?_ | refine WT.bl (by first | assumption | (symm; assumption)) ?_ | refine WT.vv (by assumption) ?_)
          case mu => first | omega | (dsimp only; omega)
          case inv => exact ⟨by omega, leA, by rw [hts, hm0]; exact OSl.one hgA ⟨_, _, rfl, Row.ofFB ⟨hoA, _, hgA⟩ hrL hrR, CapOk.of (Nat.le_refl _)⟩ ⟨hoA, hoA⟩⟩
      · have hsub : Row H (some ⟨ri, ro + f, none⟩) [] := by
          have := hrow.sub (a := f) (n := 0) (by omega)
          simpa using this
        repeat' ((conv => whnf); first | (refine cloneRow_w (xs := []) ?_ ?_ ?_ (fun H2 v2 hle2 hv2 hv3 => ?_); (· simp); (· simp); (· first | exact hsub.kp hkp | (simp; exact hsub.kp hkp)); (have hs2 := hle2.size); (have hle02 := AHeap.le.trans hle hle2); (have hyN : RRow H2 [.slice none 0 0] [] := ⟨none, 0, rfl, .nil, ⟨fun _ => rfl, by simp⟩⟩); (rcases hv2 with ⟨rfl, _⟩ | ⟨ou, rfl, gu, hu1, hu2⟩)) | ((first | (apply vB; (case h => with_reducible assumption)) | (apply vA; (case h => with_reducible assumption)) | (apply vC; (case h => with_reducible assumption))); (case hk => exact kpA); (case he => omega)) | ((first | (apply vI; (case h => with_reducible assumption)) | (apply vG; (case h => with_reducible assumption)) | (apply vK; (case h => with_reducible assumption))); (case hk => exact kpA); (case he => omega); (case hp => omega); (case' g => intro hr_ hc_)) | ((first | (apply vJ; (case h => with_reducible assumption)) | (apply vH; (case h => with_reducible assumption)) | (apply vL; (case h => with_reducible assumption))); (case hk => exact kpA); (case he => omega); (case' g => intro hr_ hc_)) | (apply drawS_auto mixed tt_ok; (· kernel_rfl)) | apply zZ | apply yA | apply yB | ((first | apply zA | apply zC | apply zE | apply zG); (· with_reducible assumption)) | ((first | apply zB | apply zD | apply zF | apply zH); (· with_reducible assumption)) | apply zM | apply zN | apply zO | apply zP | apply zQ | apply zR | apply zS | apply zT | apply zU | (apply zV; (· omega)) | (apply zW; (· omega)) | (apply zX; (· (first | omega | (dsimp only; omega)))) | (apply zY; (try (apply zY; apply zX; (· omega))); apply zX; (· omega); apply zX; (· (first | omega | (dsimp only; omega)))) | ((first | apply yJ | apply yK | apply yL | apply yM | apply yN | apply yO); (· exact hgA); (· exact hsA)) | (apply yNP; (· exact hgA); (· exact hsA)) | ((first | apply zA | apply zC | apply zE | apply zG); (· omega)) | ((first | apply zB | apply zD | apply zF | apply zH); (· omega)) | ((first | apply zI | apply zK); (· with_reducible assumption)) | ((first | apply zJ | apply zL); (· with_reducible assumption)) | fail)
        conv => whnf
        · skip
          apply Exists.intro (k + 1, _, _)
          refine ⟨?inv, ?mu, ?wk⟩
          case wk =>
            conv => whnf
            refine weakH_of (HW.refl _) ?_
            repeat' (first | exact WT.nil | refine WT.same ?_ | refine WT.drop ?_ | refine WT.int (by omega) ?_ | refine WT.eq (by assumption) ?_ | refine WT.bl (by first | assumption | (symm; assumption)) ?_ | refine WT.vv (by assumption) ?_)
          case mu => first | omega | (dsimp only; omega)
          case inv => exact ⟨by omega, leA, by rw [hts, hm0]; exact OSl.one hgA (rSl_mono rInt_mono _ _ _ _ kpA hyN) ⟨hoA, hoA⟩⟩
        · skip
          apply Exists.intro (k + 1, _, _)
          refine ⟨?inv, ?mu, ?wk⟩
          case wk =>
            conv => whnf
            refine weakH_of (HW.freeze (i := ou) hgA) ?_
            repeat' (first | exact WT.nil | refine WT.same ?_ | refine WT.drop ?_ | refine WT.int (by omega) ?_ | refine WT.eq (by assumption) ?_ | refine WT.bl (by first | assumption | (symm; assumption)) ?_ | refine WT.vv (by assumption) ?_)
          case mu => first | omega | (dsimp only; omega)
          case inv => exact ⟨by omega, leA, by rw [hts, hm0]; exact OSl.one hgA ⟨_, _, rfl, Row.ofFB ⟨hoA, _, hgA⟩ hrL hrR, CapOk.of (Nat.le_refl _)⟩ ⟨hoA, hoA⟩⟩
    · skip
      repeat' ((conv => whnf); first | (refine loadK_matS hx ?_ hlt (fun he_ => ?_) (fun ri ro rc hrow hcap => ?_); (· exact kpA)) | ((first | (apply vB; (case h => with_reducible assumption)) | (apply vA; (case h => with_reducible assumption)) | (apply vC; (case h => with_reducible assumption))); (case hk => exact kpA); (case he => omega)) | ((first | (apply vI; (case h => with_reducible assumption)) | (apply vG; (case h => with_reducible assumption)) | (apply vK; (case h => with_reducible assumption))); (case hk => exact kpA); (case he => omega); (case hp => omega); (case' g => intro hr_ hc_)) | ((first | (apply vJ; (case h => with_reducible assumption)) | (apply vH; (case h => with_reducible assumption)) | (apply vL; (case h => with_reducible assumption))); (case hk => exact kpA); (case he => omega); (case' g => intro hr_ hc_)) | (apply drawS_auto mixed tt_ok; (· kernel_rfl)) | apply zZ | apply yA | apply yB | ((first | apply zA | apply zC | apply zE | apply zG); (· with_reducible assumption)) | ((first | apply zB | apply zD | apply zF | apply zH); (· with_reducible assumption)) | apply zM | apply zN | apply zO | apply zP | apply zQ | apply zR | apply zS | apply zT | apply zU | (apply zV; (· omega)) | (apply zW; (· omega)) | (apply zX; (· (first | omega | (dsimp only; omega)))) | (apply zY; (try (apply zY; apply zX; (· omega))); apply zX; (· omega); apply zX; (· (first | omega | (dsimp only; omega)))) | ((first | apply yJ | apply yK | apply yL | apply yM | apply yN | apply yO); (· exact hgA); (· exact hsA)) | (apply yNP; (· exact hgA); (· exact hsA)) | ((first | apply zA | apply zC | apply zE | apply zG); (· omega)) | ((first | apply zB | apply zD | apply zF | apply zH); (· omega)) | ((first | apply zI | apply zK); (· with_reducible assumption)) | ((first | apply zJ | apply zL); (· with_reducible assumption)) | fail)
      conv => whnf
      · obtain rfl : f = 0 := by omega
        repeat' ((conv => whnf); first | (refine cloneRow_w (xs := []) ?_ ?_ (.nil) (fun H2 v2 hle2 hv2 hv3 => ?_); (· simp); (· simp); (have hs2 := hle2.size); (have hle02 := AHeap.le.trans hle hle2); (have hyN : RRow H2 [.slice none 0 0] [] := ⟨none, 0, rfl, .nil, ⟨fun _ => rfl, by simp⟩⟩); (have hoo2 := (hle2.get o hoh).trans hoo); (rcases hv2 with ⟨rfl, _⟩ | ⟨ou, rfl, gu, hu1, hu2⟩)) | ((first | (apply vB; (case h => with_reducible assumption)) | (apply vA; (case h => with_reducible assumption)) | (apply vC; (case h => with_reducible assumption))); (case hk => exact kpA); (case he => omega)) | ((first | (apply vI; (case h => with_reducible assumption)) | (apply vG; (case h => with_reducible assumption)) | (apply vK; (case h => with_reducible assumption))); (case hk => exact kpA); (case he => omega); (case hp => omega); (case' g => intro hr_ hc_)) | ((first | (apply vJ; (case h => with_reducible assumption)) | (apply vH; (case h => with_reducible assumption)) | (apply vL; (case h => with_reducible assumption))); (case hk => exact kpA); (case he => omega); (case' g => intro hr_ hc_)) | (apply drawS_auto mixed tt_ok; (· kernel_rfl)) | apply zZ | apply yA | apply yB | ((first | apply zA | apply zC | apply zE | apply zG); (· with_reducible assumption)) | ((first | apply zB | apply zD | apply zF | apply zH); (· with_reducible assumption)) | apply zM | apply zN | apply zO | apply zP | apply zQ | apply zR | apply zS | apply zT | apply zU | (apply zV; (· omega)) | (apply zW; (· omega)) | (apply zX; (· (first | omega | (dsimp only; omega)))) | (apply zY; (try (apply zY; apply zX; (· omega))); apply zX; (· omega); apply zX; (· (first | omega | (dsimp only; omega)))) | ((first | apply yJ | apply yK | apply yL | apply yM | apply yN | apply yO); (· exact hgA); (· exact hsA)) | (apply yNP; (· exact hgA); (· exact hsA)) | ((first | apply zA | apply zC | apply zE | apply zG); (· omega)) | ((first | apply zB | apply zD | apply zF | apply zH); (· omega)) | ((first | apply zI | apply zK); (· with_reducible assumption)) | ((first | apply zJ | apply zL); (· with_reducible assumption)) | fail)
        conv => whnf
        · skip
          apply Exists.intro (k + 1, _, _)
          refine ⟨?inv, ?mu, ?wk⟩
          case wk =>
            conv => whnf
            refine weakH_of (HW.refl _) ?_
            repeat' (first | exact WT.nil | refine WT.same ?_ | refine WT.drop ?_ | refine WT.int (by omega) ?_ | refine WT.eq (by assumption) ?_ | refine WT.bl (by first | assumption | (symm; assumption)) ?_ | refine WT.vv (by assumption) ?_)
          case mu => first | omega | (dsimp only; omega)
          case inv => exact ⟨by omega, leA, by rw [hts]; exact OSl.snoc (rSl_mono rInt_mono) hvl hvs (Kp.trans hle2.kp kpA) hgA (rSl_mono rInt_mono _ _ _ _ kpA hyN) ⟨hoA, hoA⟩⟩
        · skip
          apply Exists.intro (k + 1, _, _)
          refine ⟨?inv, ?mu, ?wk⟩
          case wk =>
            conv => whnf
            refine weakH_of (HW.freeze (i := ou) hgA) ?_
            repeat' (first | exact WT.nil | refine WT.same ?_ | refine WT.drop ?_ | refine WT.int (by omega) ?_ | refine WT.eq (by assumption) ?_ | refine WT.bl (by first | assumption | (symm; assumption)) ?_ | refine WT.vv (by assumption) ?_)
          case mu => first | omega | (dsimp only; omega)
          case inv => exact ⟨by omega, leA, by rw [hts]; exact OSl.snoc (rSl_mono rInt_mono) hvl hvs (Kp.trans hle2.kp kpA) hgA ⟨_, _, rfl, Row.ofFB ⟨hoA, _, hgA⟩ hrL hrR, CapOk.of (Nat.le_refl _)⟩ ⟨hoA, hoA⟩⟩
      · have hsub : Row H (some ⟨ri, ro + f, none⟩) [] := by
          have := hrow.sub (a := f) (n := 0) (by omega)
          simpa using this
        repeat' ((conv => whnf); first | (refine cloneRow_w (xs := []) ?_ ?_ ?_ (fun H2 v2 hle2 hv2 hv3 => ?_); (· simp); (· simp); (· first | exact hsub.kp hkp | (simp; exact hsub.kp hkp)); (have hs2 := hle2.size); (have hle02 := AHeap.le.trans hle hle2); (have hyN : RRow H2 [.slice none 0 0] [] := ⟨none, 0, rfl, .nil, ⟨fun _ => rfl, by simp⟩⟩); (have hoo2 := (hle2.get o hoh).trans hoo); (rcases hv2 with ⟨rfl, _⟩ | ⟨ou, rfl, gu, hu1, hu2⟩)) | ((first | (apply vB; (case h => with_reducible assumption)) | (apply vA; (case h => with_reducible assumption)) | (apply vC; (case h => with_reducible assumption))); (case hk => exact kpA); (case he => omega)) | ((first | (apply vI; (case h => with_reducible assumption)) | (apply vG; (case h => with_reducible assumption)) | (apply vK; (case h => with_reducible assumption))); (case hk => exact kpA); (case he => omega); (case hp => omega); (case' g => intro hr_ hc_)) | ((first | (apply vJ; (case h => with_reducible assumption)) | (apply vH; (case h => with_reducible assumption)) | (apply vL; (case h => with_reducible assumption))); (case hk => exact kpA); (case he => omega); (case' g => intro hr_ hc_)) | (apply drawS_auto mixed tt_ok; (· kernel_rfl)) | apply zZ | apply yA | apply yB | ((first | apply zA | apply zC | apply zE | apply zG); (· with_reducible assumption)) | ((first | apply zB | apply zD | apply zF | apply zH); (· with_reducible assumption)) | apply zM | apply zN | apply zO | apply zP | apply zQ | apply zR | apply zS | apply zT | apply zU | (apply zV; (· omega)) | (apply zW; (· omega)) | (apply zX; (· (first | omega | (dsimp only; omega)))) | (apply zY; (try (apply zY; apply zX; (· omega))); apply zX; (· omega); apply zX; (· (first | omega | (dsimp only; omega)))) | ((first | apply yJ | apply yK | apply yL | apply yM | apply yN | apply yO); (· exact hgA); (· exact hsA)) | (apply yNP; (· exact hgA); (· exact hsA)) | ((first | apply zA | apply zC | apply zE | apply zG); (· omega)) | ((first | apply zB | apply zD | apply zF | apply zH); (· omega)) | ((first | apply zI | apply zK); (· with_reducible assumption)) | ((first | apply zJ | apply zL); (· with_reducible assumption)) | fail)
        conv => whnf
        · skip
          apply Exists.intro (k + 1, _, _)
          refine ⟨?inv, ?mu, ?wk⟩
          case wk =>
            conv => whnf
            refine weakH_of (HW.refl _) ?_
            repeat' (first | exact WT.nil | refine WT.same ?_ | refine WT.drop ?_ | refine WT.int (by omega) ?_ | refine WT.eq (by assumption) ?_ | refine WT.bl (by first | assumption | (symm; assumption)) ?_ | refine WT.vv (by assumption) ?_)
          case mu => first | omega | (dsimp only; omega)
          case inv => exact ⟨by omega, leA, by rw [hts]; exact OSl.snoc (rSl_mono rInt_mono) hvl hvs (Kp.trans hle2.kp kpA) hgA (rSl_mono rInt_mono _ _ _ _ kpA hyN) ⟨hoA, hoA⟩⟩
        · skip
          apply Exists.intro (k + 1, _, _)
          refine ⟨?inv, ?mu, ?wk⟩
          case wk =>
            conv => whnf
            refine weakH_of (HW.freeze (i := ou) hgA) ?_
            repeat' (first | exact WT.nil | refine WT.same ?_ | refine WT.drop ?_ | refine WT.int (by omega) ?_ | refine WT.eq (by assumption) ?_ | refine WT.bl (by first | assumption | (symm; assumption)) ?_ | refine WT.vv (by assumption) ?_)
          case mu => first | omega | (dsimp only; omega)
          case inv => exact ⟨by omega, leA, by rw [hts]; exact OSl.snoc (rSl_mono rInt_mono) hvl hvs (Kp.trans hle2.kp kpA) hgA ⟨_, _, rfl, Row.ofFB ⟨hoA, _, hgA⟩ hrL hrR, CapOk.of (Nat.le_refl _)⟩ ⟨hoA, hoA⟩⟩
  · have hkn : k = m.length := by omega
    rw [hkn, ← hql, List.take_length] at hos
    have ge1 := (hle.get H.size (by omega)).trans ge0
    have hva : ∃ a3, v = .slice a3 q.length q.length := by
      obtain ⟨a3, h3, _⟩ := hos.fz (rSl_mono rInt_mono) (b := H0.size) (Nat.le_refl _) (by rw [hql]; unfold maxN; omega)
      exact ⟨a3, h3⟩
    obtain ⟨a3, rfl⟩ := hva
    repeat' ((conv => whnf); first | (apply caught_ret; (· exact hoA); (· exact hgA); intro H5 hle5 hg5) | ((first | (apply vB; (case h => with_reducible assumption)) | (apply vA; (case h => with_reducible assumption)) | (apply vC; (case h => with_reducible assumption))); (case hk => exact kpA); (case he => omega)) | ((first | (apply vI; (case h => with_reducible assumption)) | (apply vG; (case h => with_reducible assumption)) | (apply vK; (case h => with_reducible assumption))); (case hk => exact kpA); (case he => omega); (case hp => omega); (case' g => intro hr_ hc_)) | ((first | (apply vJ; (case h => with_reducible assumption)) | (apply vH; (case h => with_reducible assumption)) | (apply vL; (case h => with_reducible assumption))); (case hk => exact kpA); (case he => omega); (case' g => intro hr_ hc_)) | (apply drawS_auto mixed tt_ok; (· kernel_rfl)) | apply zZ | apply yA | apply yB | ((first | apply zA | apply zC | apply zE | apply zG); (· with_reducible assumption)) | ((first | apply zB | apply zD | apply zF | apply zH); (· with_reducible assumption)) | apply zM | apply zN | apply zO | apply zP | apply zQ | apply zR | apply zS | apply zT | apply zU | (apply zV; (· omega)) | (apply zW; (· omega)) | (apply zX; (· (first | omega | (dsimp only; omega)))) | (apply zY; (try (apply zY; apply zX; (· omega))); apply zX; (· omega); apply zX; (· (first | omega | (dsimp only; omega)))) | ((first | apply yJ | apply yK | apply yL | apply yM | apply yN | apply yO); (· exact hgA); (· exact hsA)) | (apply yNP; (· exact hgA); (· exact hsA)) | ((first | apply zA | apply zC | apply zE | apply zG); (· omega)) | ((first | apply zB | apply zD | apply zF | apply zH); (· omega)) | ((first | apply zI | apply zK); (· with_reducible assumption)) | ((first | apply zJ | apply zL); (· with_reducible assumption)) | fail)
    conv => whnf
    have hs5 : H1.size ≤ H5.size := by have := hle5.size; rw [AHeap.set_size] at this; exact this
    have hg5' : ∀ i, i < H1.size → i ≠ H.size → H5.get i = H1.get i := fun i hi hn => (hle5.get i (by rw [AHeap.set_size]; exact hi)).trans (AHeap.set_ne _ _ hn)
    have hk5 : Kp H1 H5 := ⟨hs5, fun i c2 sz hi hg => (hg5' i hi (fun e => by rw [e, ge1] at hg; simp at hg)).trans hg⟩
    obtain ⟨a4, h4, hb4⟩ := (hos.later (rSl_mono rInt_mono) hk5 (fun i h1 h2 => hg5' i h2 (by omega))).fz (rSl_mono rInt_mono) (b := H0.size) (Nat.le_refl _) (by rw [hql]; unfold maxN; omega)
    cases h4
    rw [hql]
    exact ⟨_, HW.fz _ H0.size, h _ _ (AHeap.le.fz (AHeap.le.trans (AHeap.le.set hH1 (Nat.le_refl _) _) hle5) (by omega)) hb4⟩
end Go.Abs
