/- Contracts of Join: the program's and the reference's. -/
import Derived.Test.YthadnbgkmfacmaaB03
set_option linter.all false
set_option maxHeartbeats 2000000
set_option maxRecDepth 20000
namespace Go.Abs
open Go Go.Proofs

def clipG (x : Int) : Int := max (0 - 655360) (min 655360 x)
def joE (m b : List (List Int)) : Int := if matB m = true ∧ matB b = true then if framesB m = b.length then 0 else 11 else 1
def joF (m b : List (List Int)) (i f : Nat) : Int := clipG (rnd (dotN m b i f b.length) 65536)
def joM (m b : List (List Int)) : List (List Int) := if joE m b = 0 then matF (joF m b) m.length (framesB b) else []
theorem rclipG_aux {f : Nat → Nat → Int} {k j : Nat} {v : Int} (hv : v = clipG (rnd (f k j) 65536)) (i c : Nat) :
    (if i = k ∧ c = j then v else if i < k ∨ i = k ∧ c < j then clipG (rnd (f i c) 65536) else f i c) = if i < k ∨ i = k ∧ c < j + 1 then clipG (rnd (f i c) 65536) else f i c := by
  by_cases h1 : i = k ∧ c = j
  · obtain ⟨rfl, rfl⟩ := h1
    rw [if_pos ⟨rfl, rfl⟩, if_pos (by omega), hv]
  · rw [if_neg h1]
    by_cases h2 : i < k ∨ i = k ∧ c < j
    · rw [if_pos h2, if_pos (by omega)]
    · rw [if_neg h2, if_neg (by omega)]
theorem join_c {p q : Option Addr} {c1 c2 : Nat} {m b : List (List Int)} {H : AHeap} {K : CK} (hm : Mat H p m) (hb : Mat H q b)
    (h : ∀ H' p' c', H.le H' → Mat H' p' (joM m b) → K (.returned (.tuple #[.slice p' (joM m b).length c', iv (joE m b)])) H') : callS P (fnV 11) [.slice q b.length c2, .slice p m.length c1] H K := by
  have bad_ : ∀ e, joE m b = e → e ≠ 0 → ∀ H', H.le H' → K (.returned (.tuple #[.slice none 0 0, iv e])) H' := fun e he hne H' hle => by
    have hM : joM m b = [] := by unfold joM; rw [he, if_neg hne]
    have := h H' none 0 hle (by rw [hM]; exact .nil)
    rw [hM, he] at this; exact this
  cases hvb : matB b with
  | false =>
    have hE : joE m b = 1 := by simp [joE, hvb]
    refine callS_walk tt_ok Try.func11 rfl (by kernel_rfl) ?_
    conv => whnf
    repeat' ((conv => whnf); first | refine validM_v mtA hvb ?_ | (apply must_no; (· (first | rfl | assumption | exact decide_eq_false (by omega)))) | (apply caught_panic; (· exact hoA); (· exact hgA); intro H2 hle2 hg2) | ((first | (apply vB; (case h => assumption)) | (apply vA; (case h => assumption)) | (apply vC; (case h => assumption))); (case hk => exact kpA); (case he => omega)) | ((first | (apply vI; (case h => assumption)) | (apply vG; (case h => assumption)) | (apply vK; (case h => assumption))); (case hk => exact kpA); (case he => omega); (case hp => omega); (case' g => intro hr_ hc_)) | ((first | (apply vJ; (case h => assumption)) | (apply vH; (case h => assumption)) | (apply vL; (case h => assumption))); (case hk => exact kpA); (case he => omega); (case' g => intro hr_ hc_)) | (apply drawS_auto mixed tt_ok; (· kernel_rfl)) | apply zZ | apply yA | apply yB | ((first | apply zA | apply zC | apply zE | apply zG); (· assumption)) | ((first | apply zB | apply zD | apply zF | apply zH); (· assumption)) | apply zM | apply zN | apply zO | apply zP | apply zQ | apply zR | apply zS | apply zT | apply zU | (apply zV; (· omega)) | (apply zW; (· omega)) | (apply zX; (· (first | omega | (dsimp only; omega)))) | (apply zY; (try (apply zY; apply zX; (· omega))); apply zX; (· omega); apply zX; (· (first | omega | (dsimp only; omega)))) | ((first | apply yJ | apply yK | apply yL | apply yM | apply yN | apply yO); (· exact hgA); (· exact hsA)) | (apply yNP; (· exact hgA); (· exact hsA)) | ((first | apply zA | apply zC | apply zE | apply zG); (· omega)) | ((first | apply zB | apply zD | apply zF | apply zH); (· omega)) | ((first | apply zI | apply zK); (· assumption)) | ((first | apply zJ | apply zL); (· assumption)) | ((first | apply xA | apply xC | apply xE | apply xG); (· first | assumption | rfl)) | ((first | apply xB | apply xD | apply xF | apply xH); (· first | assumption | kernel_rfl)) | fail)
    conv => whnf
    exact bad_ 1 hE (by omega) _ (AHeap.le.trans leA hle2)
  | true =>
    cases hvm : matB m with
    | false =>
      have hE : joE m b = 1 := by simp [joE, hvm]
      refine callS_walk tt_ok Try.func11 rfl (by kernel_rfl) ?_
      conv => whnf
      repeat' ((conv => whnf); first | refine validM_v mtA hvb ?_ | refine validM_v mtA hvm ?_ | (apply must_no; (· (first | rfl | assumption | exact decide_eq_false (by omega)))) | (apply caught_panic; (· exact hoA); (· exact hgA); intro H2 hle2 hg2) | ((first | (apply vB; (case h => assumption)) | (apply vA; (case h => assumption)) | (apply vC; (case h => assumption))); (case hk => exact kpA); (case he => omega)) | ((first | (apply vI; (case h => assumption)) | (apply vG; (case h => assumption)) | (apply vK; (case h => assumption))); (case hk => exact kpA); (case he => omega); (case hp => omega); (case' g => intro hr_ hc_)) | ((first | (apply vJ; (case h => assumption)) | (apply vH; (case h => assumption)) | (apply vL; (case h => assumption))); (case hk => exact kpA); (case he => omega); (case' g => intro hr_ hc_)) | (apply drawS_auto mixed tt_ok; (· kernel_rfl)) | apply zZ | apply yA | apply yB | ((first | apply zA | apply zC | apply zE | apply zG); (· assumption)) | ((first | apply zB | apply zD | apply zF | apply zH); (· assumption)) | apply zM | apply zN | apply zO | apply zP | apply zQ | apply zR | apply zS | apply zT | apply zU | (apply zV; (· omega)) | (apply zW; (· omega)) | (apply zX; (· (first | omega | (dsimp only; omega)))) | (apply zY; (try (apply zY; apply zX; (· omega))); apply zX; (· omega); apply zX; (· (first | omega | (dsimp only; omega)))) | ((first | apply yJ | apply yK | apply yL | apply yM | apply yN | apply yO); (· exact hgA); (· exact hsA)) | (apply yNP; (· exact hgA); (· exact hsA)) | ((first | apply zA | apply zC | apply zE | apply zG); (· omega)) | ((first | apply zB | apply zD | apply zF | apply zH); (· omega)) | ((first | apply zI | apply zK); (· assumption)) | ((first | apply zJ | apply zL); (· assumption)) | ((first | apply xA | apply xC | apply xE | apply xG); (· first | assumption | rfl)) | ((first | apply xB | apply xD | apply xF | apply xH); (· first | assumption | kernel_rfl)) | fail)
      conv => whnf
      exact bad_ 1 hE (by omega) _ (AHeap.le.trans leA hle2)
    | true =>
      obtain ⟨⟨hm1, hm8⟩, ⟨hw1, hw8⟩, hmr⟩ := matB_rows hvm
      obtain ⟨⟨hb1, hb8⟩, ⟨hv1, hv8⟩, hbr0⟩ := matB_rows hvb
      have hm0 : 0 < m.length := hm1
      have hb0 : 0 < b.length := hb1
      rw [frames0 hm0] at hw1 hw8 hmr
      rw [frames0 hb0] at hv1 hv8 hbr0
      have hbr : ∀ r ∈ b, r.length = b[0].length ∧ r.length ≤ 4096 ∧ ∀ x ∈ r, -8388607 ≤ x ∧ x ≤ 8388607 := fun r hr => ⟨(hbr0 r hr).1, by have := (hbr0 r hr).1; omega, fun x hx => by have := (hbr0 r hr).2 x hx; omega⟩
      obtain ⟨i0, off, rfl⟩ := hm.at hm0
      obtain ⟨i1, off1, rfl⟩ := hb.at hb0
      by_cases hd : m[0].length = b.length
      · have hE : joE m b = 0 := by rw [joE, if_pos ⟨hvm, hvb⟩, frames0 hm0, if_pos hd]
        have hM : joM m b = matF (joF m b) m.length b[0].length := by rw [joM, if_pos hE, frames0 hb0]
        rw [hE, hM, matF_len] at h
        have hL4 := (hbr b[0] (List.getElem_mem _)).2.1
        refine callS_post ?_
        refine callS_walk tt_ok Try.func11 rfl (by kernel_rfl) ?_
        conv => whnf
        repeat' ((conv => whnf); first | refine validM_v mtA hvb ?_ | refine validM_v mtA hvm ?_ | (apply must_ok; (· (first | rfl | assumption | exact decide_eq_true (by omega)))) | refine empty_c (n := m.length) (m := b[0].length) ⟨by omega, by omega⟩ (fun H1 o rs hle1 hom => ?_); (have hs1 : H.size + 2 ≤ H1.size := hle1.size); (have hkp1 : Kp H H1 := Kp.trans kpA hle1.kp) | refine of_c (hm.kp kpA) (fun H2 hle2 => ?_) | (apply weightsF_c) | ((first | (apply vB; (case h => assumption)) | (apply vA; (case h => assumption)) | (apply vC; (case h => assumption))); (case hk => exact kpA); (case he => omega)) | ((first | (apply vI; (case h => assumption)) | (apply vG; (case h => assumption)) | (apply vK; (case h => assumption))); (case hk => exact kpA); (case he => omega); (case hp => omega); (case' g => intro hr_ hc_)) | ((first | (apply vJ; (case h => assumption)) | (apply vH; (case h => assumption)) | (apply vL; (case h => assumption))); (case hk => exact kpA); (case he => omega); (case' g => intro hr_ hc_)) | (apply drawS_auto mixed tt_ok; (· kernel_rfl)) | apply zZ | apply yA | apply yB | ((first | apply zA | apply zC | apply zE | apply zG); (· assumption)) | ((first | apply zB | apply zD | apply zF | apply zH); (· assumption)) | apply zM | apply zN | apply zO | apply zP | apply zQ | apply zR | apply zS | apply zT | apply zU | (apply zV; (· omega)) | (apply zW; (· omega)) | (apply zX; (· (first | omega | (dsimp only; omega)))) | (apply zY; (try (apply zY; apply zX; (· omega))); apply zX; (· omega); apply zX; (· (first | omega | (dsimp only; omega)))) | ((first | apply yJ | apply yK | apply yL | apply yM | apply yN | apply yO); (· exact hgA); (· exact hsA)) | (apply yNP; (· exact hgA); (· exact hsA)) | ((first | apply zA | apply zC | apply zE | apply zG); (· omega)) | ((first | apply zB | apply zD | apply zF | apply zH); (· omega)) | ((first | apply zI | apply zK); (· assumption)) | ((first | apply zJ | apply zL); (· assumption)) | ((first | apply xA | apply xC | apply xE | apply xG); (· first | assumption | rfl)) | ((first | apply xB | apply xD | apply xF | apply xH); (· first | assumption | kernel_rfl)) | fail)
        conv => whnf
        have hs2 : H1.size + 1 ≤ H2.size := hle2.size
        have hleH1 : H.le H1 := AHeap.le.trans (AHeap.le.trans (AHeap.le_push _ _) (AHeap.le_push _ _)) hle1
        have hleH2 : H.le H2 := AHeap.le.trans leA hle2
        have hlo : ∀ r ∈ rs, H.size + 2 ≤ r := hom.lo.2
        have hlt1 : ∀ r ∈ rs, r < H1.size := hom.lt.2
        have ho1 : H.size + 2 ≤ o ∧ o < H1.size := ⟨hom.lo.1, hom.lt.1⟩
        have hgb : H2.get H.size = some (.cells [.slice (some ⟨i1, off1, none⟩) b.length c2] true 0) := (hle2.get _ hoA).trans (by (repeat (first | assumption | ((first | apply yP | apply yQ); (first | omega | (simp; done) | (simp; omega))) | ((first | refine (yR _ _ ?_).trans ?_ | refine (yS _ _ ?_).trans ?_ | refine (yT _ ?_).trans ?_ | refine (yU (by assumption) _ ?_).trans ?_); (· (first | omega | (simp; done) | (simp; omega)))) | exact rfl)); exact (hle1.get _ hoA).trans hgA)
        have hge : H2.get (H.size + 1) = some (.cells [iv 0] true 0) := (hle2.get _ hoA).trans (by (repeat (first | assumption | ((first | apply yP | apply yQ); (first | omega | (simp; done) | (simp; omega))) | ((first | refine (yR _ _ ?_).trans ?_ | refine (yS _ _ ?_).trans ?_ | refine (yT _ ?_).trans ?_ | refine (yU (by assumption) _ ?_).trans ?_); (· (first | omega | (simp; done) | (simp; omega)))) | exact rfl)); exact (hle1.get _ hoA).trans hgA)
        have hg6 : H2.get H1.size = some (.cells [.slice (some ⟨o, 0, none⟩) m.length m.length] true 0) := (hle2.get _ hoA).trans hgA
        have hom2 : OMat H2 (H.size + 2) o rs (matF (fun _ _ => 0) m.length b[0].length) [] := (hom.of_get (H' := H2) (by omega) (fun i hi _ => (hle2.get i hoA).trans hgA))
        have nin : ∀ j, j < H.size + 2 ∨ H1.size ≤ j → j ∉ rs := fun j hj hm => by have := hlo j hm; have := hlt1 j hm; omega
        have hno : o ∉ rs := hom.no
        refine weights_c (H0 := H) (sb := H2.size) (v1 := iv m.length) (v2 := iv (framesB m)) (c := c1) (I := fun Hb i k HH => Hb.size ≤ HH.size ∧ (∀ j, j < Hb.size → j ∉ rs → HH.get j = Hb.get j) ∧ OMat HH (H.size + 2) o rs (matF (pm m b b.length i k) m.length b[0].length) [])
          (X := fun _ _ => False) hm ?_ ?_ ?_ ?_ ?_ (fun _ hX => hX.elim)
        · rintro i k HH ⟨hs, hsame, hom3⟩
          have hs' : H2.size + 3 ≤ HH.size := hs
          exact ⟨AHeap.le.kp ⟨by omega, fun j hj => (hsame j hoA (nin j (.inl (by omega)))).trans (AHeap.le.get leA j hj)⟩, (hsame H2.size hoA (nin _ (.inr (by omega)))).trans hgA⟩
        · rintro i hi HH ⟨hs, hsame, hom3⟩
          rw [(hmr m[i] (List.getElem_mem _)).1, hd] at hom3
          exact ⟨hs, hsame, hom3.cast _ (fun a _ f _ => pm_next m b b.length i a f)⟩
        · exact ⟨Nat.le_refl _, fun _ _ _ => rfl, (hom2.of_get hoA (fun i hi _ => hgA)).cast _ (fun a _ f _ => by simp [pm, dotN_zero])⟩
        · rintro i k HH K1 hi hk ⟨hs, hsame, hom3⟩ hT _
          have hs' : H2.size + 3 ≤ HH.size := hs
          have hml := (hmr m[i] (List.getElem_mem _)).1
          have hkb : k < b.length := by omega
          have gl := (hsame (H2.size + 2) hoA (nin _ (.inr (by omega)))).trans hgA
          have gb : HH.get H.size = some (.cells [.slice (some ⟨i1, off1, none⟩) b.length c2] true 0) := (hsame H.size hoA (nin _ (.inl (by omega)))).trans hgA
          have g6 : HH.get H1.size = some (.cells [.slice (some ⟨o, 0, none⟩) m.length m.length] true 0) := (hsame H1.size hoA (nin _ (.inr (by omega)))).trans hgA
          have hkH : Kp H HH := AHeap.le.kp ⟨by omega, fun j hj => (hsame j hoA (nin j (.inl (by omega)))).trans (AHeap.le.get leA j hj)⟩
          have hwb := (hmr m[i] (List.getElem_mem _)).2 m[i][k] (List.getElem_mem _)
          have hbl := (hbr b[k] (List.getElem_mem _)).1
          refine callS_round tt_ok ?_
          repeat' ((conv => whnf); first | ((first | (apply vB; (case h => assumption)) | (apply vA; (case h => assumption)) | (apply vC; (case h => assumption))); (case hk => exact kpA); (case he => omega)) | ((first | (apply vI; (case h => assumption)) | (apply vG; (case h => assumption)) | (apply vK; (case h => assumption))); (case hk => exact kpA); (case he => omega); (case hp => omega); (case' g => intro hr_ hc_)) | ((first | (apply vJ; (case h => assumption)) | (apply vH; (case h => assumption)) | (apply vL; (case h => assumption))); (case hk => exact kpA); (case he => omega); (case' g => intro hr_ hc_)) | (apply drawS_auto mixed tt_ok; (· kernel_rfl)) | apply zZ | apply yA | apply yB | ((first | apply zA | apply zC | apply zE | apply zG); (· assumption)) | ((first | apply zB | apply zD | apply zF | apply zH); (· assumption)) | apply zM | apply zN | apply zO | apply zP | apply zQ | apply zR | apply zS | apply zT | apply zU | (apply zV; (· omega)) | (apply zW; (· omega)) | (apply zX; (· (first | omega | (dsimp only; omega)))) | (apply zY; (try (apply zY; apply zX; (· omega))); apply zX; (· omega); apply zX; (· (first | omega | (dsimp only; omega)))) | ((first | apply yJ | apply yK | apply yL | apply yM | apply yN | apply yO); (· exact hgA); (· exact hsA)) | (apply yNP; (· exact hgA); (· exact hsA)) | ((first | apply zA | apply zC | apply zE | apply zG); (· omega)) | ((first | apply zB | apply zD | apply zF | apply zH); (· omega)) | ((first | apply zI | apply zK); (· assumption)) | ((first | apply zJ | apply zL); (· assumption)) | ((first | apply xA | apply xC | apply xE | apply xG); (· first | assumption | rfl)) | ((first | apply xB | apply xD | apply xF | apply xH); (· first | assumption | kernel_rfl)) | fail)
          conv => whnf
          refine loopS_gen (fun Hr hHr => ?_)
          have hz : HH.size + 1 ≤ Hr.size := by rw [hHr]; exact hoA
          have hx : ∀ x, x < HH.size → x ≠ H2.size + 2 → Hr.get x = HH.get x := by
            rw [hHr]
            intro x h1 h2
            (repeat (first | exact rfl | (refine (yR _ _ ?_).trans ?_; (· exact hoA)) | (refine (yS _ _ ?_).trans ?_; (· exact hoA)) | (refine (yT _ ?_).trans ?_; (· exact hoA))))
          have g7 : Hr.get HH.size = some (.cells [iv i, iv k] true 0) := by rw [hHr]; exact hgA
          have hnl : ∀ x, x = o ∨ x ∈ rs → x ≠ H2.size + 2 := fun x hx => by
            rcases hx with rfl | hx
            · omega
            · have := hlt1 x hx; omega
          have homr := hom3.of_get (H' := Hr) (by omega) (fun x h1 h2 => hx x h1 (hnl x h2))
          refine loopS_mask tt_ok (fun (j : Nat × AHeap) => [.w, .w, .w, .w, .k, .k, .k, .k, .k, .w, .w, .w, .w, .w, .w, .w, .w, .w, .w, .w, .w, .w, .w, .w, .w, .w, .w, .w, .w, .w, .w, .w, .w, .w, .w, .w, .w, .w, .w, .w, .w, .w, .w, .w, .w, .w, .k, .k, .p (iv j.1), .w, .w, .w, .w, .w, .w, .w, .w, .w, .w, .w, .w, .w, .w, .w, .w, .w, .w, .w, .w, .w, .w, .w, .w, .w, .w, .w, .w, .w, .w, .w, .w, .w, .w, .w, .w, .w, .w, .w, .w]) (fun (j : Nat × AHeap) => j.2) (fun (j : Nat × AHeap) => j.1 ≤ b[0].length ∧ Hr.size ≤ j.2.size ∧ (∀ x, x < Hr.size → x ∉ rs → j.2.get x = Hr.get x) ∧ OMat j.2 (H.size + 2) o rs (matF (fun a f => if a = i ∧ f < j.1 then pm m b b.length i (k + 1) a f else pm m b b.length i k a f) m.length b[0].length) []) (fun (j : Nat × AHeap) => b[0].length - j.1) (⟨0, Hr⟩) (⟨by omega, Nat.le_refl _, fun _ _ _ => rfl, homr.cast _ (fun a _ f _ => by simp)⟩) ?_ (fun j hj => ?_)
          · conv => whnf
            refine weakH_of (HW.refl _) ?_
            repeat' (first | exact WT.nil | refine WT.same ?_ | refine WT.drop ?_ | refine WT.int (by omega) ?_ | refine WT.eq (by assumption) ?_ | refine WT.bl (by first | assumption | (symm; assumption)) ?_ | refine WT.vv (by assumption) ?_)
          obtain ⟨j, H4⟩ := j
          obtain ⟨hj, hz4, hsame4, hom4⟩ := hj
          dsimp only at hj hz4 hsame4 hom4 ⊢
          by_cases hlj : j < b[0].length
          · have hjb : j < b[k].length := by omega
            have g74 : H4.get HH.size = some (.cells [iv i, iv k] true 0) := (hsame4 _ (by omega) (nin _ (.inr (by omega)))).trans g7
            have g64 : H4.get H1.size = some (.cells [.slice (some ⟨o, 0, none⟩) m.length m.length] true 0) := (hsame4 _ (by omega) (nin _ (.inr (by omega)))).trans ((hx _ (by omega) (by omega)).trans g6)
            have hkH4 : Kp H H4 := AHeap.le.kp ⟨by omega, fun x h1 => (hsame4 x (by omega) (nin x (.inl (by omega)))).trans ((hx x (by omega) (by omega)).trans ((hsame x hoA (nin x (.inl (by omega)))).trans (AHeap.le.get leA x h1)))⟩
            have hxb := (hbr b[k] (List.getElem_mem _)).2.2 b[k][j] (List.getElem_mem _)
            have hmx := mul_bdd (A := 655360) (B := 8388607) hwb hxb
            have hpb : -43980465111040 ≤ pm m b b.length i k i j ∧ pm m b b.length i k i j ≤ 43980465111040 := by
              have := dotN_bd (A := 655360) (B := 8388607) (by omega) (by omega) (fun r hr => (hmr r hr).2) (fun r hr => (hbr r hr).2.2) i j k
              have hk8 : (k : Int) * (655360 * 8388607) ≤ 8 * (655360 * 8388607) := Int.mul_le_mul_of_nonneg_right (by omega) (by omega)
              unfold pm
              simp only [Nat.lt_irrefl, if_false, if_true]
              omega
            have e1 : (if i = i ∧ j < j then pm m b b.length i (k + 1) i j else pm m b b.length i k i j) = pm m b b.length i k i j := by simp
            have e2 : pm m b b.length i k i j + m[i][k] * b[k][j] = pm m b b.length i k i j + at2 m i k * at2 b k j := by rw [at2_eq hi hk, at2_eq hkb hjb]
            repeat' ((conv => whnf); first | refine hom4.row hi ?_ | refine hom4.at hi hlj ?_; rw [e1] | refine hom4.put2 hi hlj (fun a f => if a = i ∧ f < j + 1 then pm m b b.length i (k + 1) a f else pm m b b.length i k a f) (fun a _ f _ => ?_) (fun H5 hom5 hkp5 => ?_); exact pm_aux e2 a f | ((first | (apply vB; (case h => assumption)) | (apply vA; (case h => assumption)) | (apply vC; (case h => assumption))); (case hk => exact kpA); (case he => omega)) | ((first | (apply vI; (case h => assumption)) | (apply vG; (case h => assumption)) | (apply vK; (case h => assumption))); (case hk => exact kpA); (case he => omega); (case hp => omega); (case' g => intro hr_ hc_)) | ((first | (apply vJ; (case h => assumption)) | (apply vH; (case h => assumption)) | (apply vL; (case h => assumption))); (case hk => exact kpA); (case he => omega); (case' g => intro hr_ hc_)) | (apply drawS_auto mixed tt_ok; (· kernel_rfl)) | apply zZ | apply yA | apply yB | ((first | apply zA | apply zC | apply zE | apply zG); (· assumption)) | ((first | apply zB | apply zD | apply zF | apply zH); (· assumption)) | apply zM | apply zN | apply zO | apply zP | apply zQ | apply zR | apply zS | apply zT | apply zU | (apply zV; (· omega)) | (apply zW; (· omega)) | (apply zX; (· (first | omega | (dsimp only; omega)))) | (apply zY; (try (apply zY; apply zX; (· omega))); apply zX; (· omega); apply zX; (· (first | omega | (dsimp only; omega)))) | ((first | apply yJ | apply yK | apply yL | apply yM | apply yN | apply yO); (· exact hgA); (· exact hsA)) | (apply yNP; (· exact hgA); (· exact hsA)) | ((first | apply zA | apply zC | apply zE | apply zG); (· omega)) | ((first | apply zB | apply zD | apply zF | apply zH); (· omega)) | ((first | apply zI | apply zK); (· assumption)) | ((first | apply zJ | apply zL); (· assumption)) | ((first | apply xA | apply xC | apply xE | apply xG); (· first | assumption | rfl)) | ((first | apply xB | apply xD | apply xF | apply xH); (· first | assumption | kernel_rfl)) | fail)
            conv => whnf
            apply Exists.intro (j + 1, H5)
            refine ⟨?inv, ?mu, ?wk⟩
            case wk =>
              conv => whnf
              refine weakH_of (HW.refl _) ?_
              repeat' (first | exact WT.nil | refine WT.same ?_ | refine WT.drop ?_ | refine WT.int (by omega) ?_ | refine WT.eq (by assumption) ?_ | refine WT.bl (by first | assumption | (symm; assumption)) ?_ | refine WT.vv (by assumption) ?_)
            case mu => first | omega | (dsimp only; omega)
            case inv => exact ⟨by omega, by rw [hkp5.size]; exact hz4, fun x h1 h2 => (hkp5.get x h2).trans (hsame4 x h1 h2), hom5⟩
          · have hjl : j = b[0].length := by omega
            subst hjl
            have gl4 := (hsame4 (H2.size + 2) (by omega) (nin _ (.inr (by omega)))).trans ((congrArg (fun z => AHeap.get z (H2.size + 2)) hHr).trans hgA)
            repeat' ((conv => whnf); first | ((first | (apply vB; (case h => assumption)) | (apply vA; (case h => assumption)) | (apply vC; (case h => assumption))); (case hk => exact kpA); (case he => omega)) | ((first | (apply vI; (case h => assumption)) | (apply vG; (case h => assumption)) | (apply vK; (case h => assumption))); (case hk => exact kpA); (case he => omega); (case hp => omega); (case' g => intro hr_ hc_)) | ((first | (apply vJ; (case h => assumption)) | (apply vH; (case h => assumption)) | (apply vL; (case h => assumption))); (case hk => exact kpA); (case he => omega); (case' g => intro hr_ hc_)) | (apply drawS_auto mixed tt_ok; (· kernel_rfl)) | apply zZ | apply yA | apply yB | ((first | apply zA | apply zC | apply zE | apply zG); (· assumption)) | ((first | apply zB | apply zD | apply zF | apply zH); (· assumption)) | apply zM | apply zN | apply zO | apply zP | apply zQ | apply zR | apply zS | apply zT | apply zU | (apply zV; (· omega)) | (apply zW; (· omega)) | (apply zX; (· (first | omega | (dsimp only; omega)))) | (apply zY; (try (apply zY; apply zX; (· omega))); apply zX; (· omega); apply zX; (· (first | omega | (dsimp only; omega)))) | ((first | apply yJ | apply yK | apply yL | apply yM | apply yN | apply yO); (· exact hgA); (· exact hsA)) | (apply yNP; (· exact hgA); (· exact hsA)) | ((first | apply zA | apply zC | apply zE | apply zG); (· omega)) | ((first | apply zB | apply zD | apply zF | apply zH); (· omega)) | ((first | apply zI | apply zK); (· assumption)) | ((first | apply zJ | apply zL); (· assumption)) | ((first | apply xA | apply xC | apply xE | apply xG); (· first | assumption | rfl)) | ((first | apply xB | apply xD | apply xF | apply xH); (· first | assumption | kernel_rfl)) | fail)
            conv => whnf
            refine hT _ ⟨hoA, fun x h1 h2 => ?_, (hom4.of_get hoA (fun x h1 h2 => AHeap.set_ne _ _ (hnl x h2))).cast _ (fun a ha f hf => ?_)⟩
            · have h1' : x < H2.size + 3 := h1
              by_cases hl : x = H2.size + 2
              · subst hl
                exact Eq.trans hgA (Eq.symm hgA)
              · refine (yR _ _ (by simpa using hl)).trans ?_
                exact (hsame4 x (by omega) h2).trans ((hx x (by omega) hl).trans (hsame x h1 h2))
            · by_cases hai : a = i
              · rw [if_pos ⟨hai, hf⟩]
              · rw [if_neg (fun hh => hai hh.1)]
                unfold pm
                by_cases h5 : a < i
                · rw [if_pos h5, if_pos h5]
                · rw [if_neg h5, if_neg h5, if_neg hai, if_neg hai]
        · rintro HH ⟨hs, hsame, hom3⟩
          have hs' : H2.size + 3 ≤ HH.size := hs
          have gl := (hsame (H2.size + 2) hoA (nin _ (.inr (by omega)))).trans hgA
          have gd : HH.get (H2.size + 1) = some (.deferred []) := (hsame (H2.size + 1) hoA (nin _ (.inr (by omega)))).trans hgA
          have g6 : HH.get H1.size = some (.cells [.slice (some ⟨o, 0, none⟩) m.length m.length] true 0) := (hsame H1.size hoA (nin _ (.inr (by omega)))).trans hgA
          have ge : HH.get (H.size + 1) = some (.cells [iv 0] true 0) := (hsame (H.size + 1) hoA (nin _ (.inl (by omega)))).trans hgA
          have hHH : H.le HH := ⟨by omega, fun j hj => (hsame j hoA (nin j (.inl (by omega)))).trans (AHeap.le.get leA j hj)⟩
          have hdb : ∀ i f, -43980465111040 ≤ dotN m b i f b.length ∧ dotN m b i f b.length ≤ 43980465111040 := fun i f => by
            have := dotN_bd (A := 655360) (B := 8388607) (by omega) (by omega) (fun r hr => (hmr r hr).2) (fun r hr => (hbr r hr).2.2) i f b.length
            have hk8 : (b.length : Int) * (655360 * 8388607) ≤ 8 * (655360 * 8388607) := Int.mul_le_mul_of_nonneg_right (by omega) (by omega)
            omega
          have hom5 := hom3.cast (fun i f => dotN m b i f b.length) (fun a ha f _ => by simp [pm, ha])
          repeat' ((conv => whnf); first | ((first | (apply vB; (case h => assumption)) | (apply vA; (case h => assumption)) | (apply vC; (case h => assumption))); (case hk => exact kpA); (case he => omega)) | ((first | (apply vI; (case h => assumption)) | (apply vG; (case h => assumption)) | (apply vK; (case h => assumption))); (case hk => exact kpA); (case he => omega); (case hp => omega); (case' g => intro hr_ hc_)) | ((first | (apply vJ; (case h => assumption)) | (apply vH; (case h => assumption)) | (apply vL; (case h => assumption))); (case hk => exact kpA); (case he => omega); (case' g => intro hr_ hc_)) | (apply drawS_auto mixed tt_ok; (· kernel_rfl)) | apply zZ | apply yA | apply yB | ((first | apply zA | apply zC | apply zE | apply zG); (· assumption)) | ((first | apply zB | apply zD | apply zF | apply zH); (· assumption)) | apply zM | apply zN | apply zO | apply zP | apply zQ | apply zR | apply zS | apply zT | apply zU | (apply zV; (· omega)) | (apply zW; (· omega)) | (apply zX; (· (first | omega | (dsimp only; omega)))) | (apply zY; (try (apply zY; apply zX; (· omega))); apply zX; (· omega); apply zX; (· (first | omega | (dsimp only; omega)))) | ((first | apply yJ | apply yK | apply yL | apply yM | apply yN | apply yO); (· exact hgA); (· exact hsA)) | (apply yNP; (· exact hgA); (· exact hsA)) | ((first | apply zA | apply zC | apply zE | apply zG); (· omega)) | ((first | apply zB | apply zD | apply zF | apply zH); (· omega)) | ((first | apply zI | apply zK); (· assumption)) | ((first | apply zJ | apply zL); (· assumption)) | ((first | apply xA | apply xC | apply xE | apply xG); (· first | assumption | rfl)) | ((first | apply xB | apply xD | apply xF | apply xH); (· first | assumption | kernel_rfl)) | fail)
          conv => whnf
          refine loopS_gen (fun Hr hHr => ?_)
          have hz : HH.size ≤ Hr.size := by rw [hHr]; exact hoA
          have hx : ∀ x, x < HH.size → x ≠ H2.size + 2 → Hr.get x = HH.get x := by
            rw [hHr]
            intro x h1 h2
            (repeat (first | exact rfl | (refine (yR _ _ ?_).trans ?_; (· exact hoA)) | (refine (yS _ _ ?_).trans ?_; (· exact hoA)) | (refine (yT _ ?_).trans ?_; (· exact hoA))))
          have hleHr : H.le Hr := ⟨by omega, fun j hj => (hx j (by omega) (by omega)).trans (hHH.get j hj)⟩
          have hnl : ∀ x, x = o ∨ x ∈ rs → x ≠ H2.size + 2 := fun x hx => by
            rcases hx with rfl | hx
            · omega
            · have := hlt1 x hx; omega
          have homr := hom5.of_get (H' := Hr) (by omega) (fun x h1 h2 => hx x h1 (hnl x h2))
          refine loopS_mask tt_ok (fun (k : Nat × AHeap) => [.w, .w, .w, .w, .k, .k, .k, .w, .w, .w, .w, .w, .w, .w, .w, .w, .w, .w, .w, .w, .w, .w, .w, .w, .w, .w, .w, .w, .w, .w, .w, .w, .w, .w, .w, .w, .w, .w, .w, .w, .w, .w, .w, .w, .w, .w, .w, .w, .w, .w, .w, .w, .w, .w, .w, .w, .w, .w, .w, .w, .w, .w, .w, .w, .w, .w, .w, .k, .k, .p (iv k.1), .w, .w, .w, .w, .w, .w, .w, .w, .w, .w, .w, .w, .w, .w, .w, .w, .w, .w, .w]) (fun (k : Nat × AHeap) => k.2) (fun (k : Nat × AHeap) => k.1 ≤ m.length ∧ Hr.size ≤ k.2.size ∧ (∀ x, x < Hr.size → x ∉ rs → k.2.get x = Hr.get x) ∧ OMat k.2 (H.size + 2) o rs (matF (fun i f => if i < k.1 then clipG (rnd (dotN m b i f b.length) 65536) else dotN m b i f b.length) m.length b[0].length) []) (fun (k : Nat × AHeap) => m.length - k.1) (⟨0, Hr⟩) (⟨by omega, Nat.le_refl _, fun _ _ _ => rfl, homr.cast _ (fun a _ f _ => by simp)⟩) ?_ (fun k hk => ?_)
          · conv => whnf
            refine weakH_of (HW.refl _) ?_
            repeat' (first | exact WT.nil | refine WT.same ?_ | refine WT.drop ?_ | refine WT.int (by omega) ?_ | refine WT.eq (by assumption) ?_ | refine WT.bl (by first | assumption | (symm; assumption)) ?_ | refine WT.vv (by assumption) ?_)
          obtain ⟨k, H4⟩ := k
          obtain ⟨hk, hz4, hsame4, hom4⟩ := hk
          dsimp only at hk hz4 hsame4 hom4 ⊢
          by_cases hlt : k < m.length
          · skip
            repeat' ((conv => whnf); first | refine hom4.row hlt ?_ | ((first | (apply vB; (case h => assumption)) | (apply vA; (case h => assumption)) | (apply vC; (case h => assumption))); (case hk => exact kpA); (case he => omega)) | ((first | (apply vI; (case h => assumption)) | (apply vG; (case h => assumption)) | (apply vK; (case h => assumption))); (case hk => exact kpA); (case he => omega); (case hp => omega); (case' g => intro hr_ hc_)) | ((first | (apply vJ; (case h => assumption)) | (apply vH; (case h => assumption)) | (apply vL; (case h => assumption))); (case hk => exact kpA); (case he => omega); (case' g => intro hr_ hc_)) | (apply drawS_auto mixed tt_ok; (· kernel_rfl)) | apply zZ | apply yA | apply yB | ((first | apply zA | apply zC | apply zE | apply zG); (· assumption)) | ((first | apply zB | apply zD | apply zF | apply zH); (· assumption)) | apply zM | apply zN | apply zO | apply zP | apply zQ | apply zR | apply zS | apply zT | apply zU | (apply zV; (· omega)) | (apply zW; (· omega)) | (apply zX; (· (first | omega | (dsimp only; omega)))) | (apply zY; (try (apply zY; apply zX; (· omega))); apply zX; (· omega); apply zX; (· (first | omega | (dsimp only; omega)))) | ((first | apply yJ | apply yK | apply yL | apply yM | apply yN | apply yO); (· exact hgA); (· exact hsA)) | (apply yNP; (· exact hgA); (· exact hsA)) | ((first | apply zA | apply zC | apply zE | apply zG); (· omega)) | ((first | apply zB | apply zD | apply zF | apply zH); (· omega)) | ((first | apply zI | apply zK); (· assumption)) | ((first | apply zJ | apply zL); (· assumption)) | ((first | apply xA | apply xC | apply xE | apply xG); (· first | assumption | rfl)) | ((first | apply xB | apply xD | apply xF | apply xH); (· first | assumption | kernel_rfl)) | fail)
            conv => whnf
            refine loopS_mask tt_ok (fun (j : Nat × AHeap) => [.w, .w, .w, .w, .k, .k, .k, .w, .w, .w, .w, .w, .k, .w, .w, .w, .w, .w, .w, .w, .w, .w, .w, .w, .w, .w, .w, .w, .w, .w, .w, .w, .w, .w, .w, .w, .w, .w, .w, .w, .w, .w, .w, .w, .w, .w, .w, .w, .w, .w, .w, .w, .w, .w, .w, .w, .w, .w, .w, .w, .w, .w, .w, .w, .w, .w, .w, .k, .k, .k, .w, .w, .w, .k, .k, .p (iv j.1), .w, .w, .w, .w, .w, .w, .w, .w, .w, .w, .w, .w, .w]) (fun (j : Nat × AHeap) => j.2) (fun (j : Nat × AHeap) => j.1 ≤ b[0].length ∧ Hr.size ≤ j.2.size ∧ (∀ x, x < Hr.size → x ∉ rs → j.2.get x = Hr.get x) ∧ OMat j.2 (H.size + 2) o rs (matF (fun i f => if i < k ∨ (i = k ∧ f < j.1) then clipG (rnd (dotN m b i f b.length) 65536) else dotN m b i f b.length) m.length b[0].length) []) (fun (j : Nat × AHeap) => b[0].length - j.1) (⟨0, H4⟩) (⟨by omega, hz4, hsame4, hom4.cast _ (fun a _ f _ => by simp)⟩) ?_ (fun j hj => ?_)
            · conv => whnf
              refine weakH_of (HW.refl _) ?_
              repeat' (first | exact WT.nil | refine WT.same ?_ | refine WT.drop ?_ | refine WT.int (by omega) ?_ | refine WT.eq (by assumption) ?_ | refine WT.bl (by first | assumption | (symm; assumption)) ?_ | refine WT.vv (by assumption) ?_)
            obtain ⟨j, H5⟩ := j
            obtain ⟨hj, hz5, hsame5, hom5⟩ := hj
            dsimp only at hj hz5 hsame5 hom5 ⊢
            by_cases hlj : j < b[0].length
            · have e1 : (if k < k ∨ k = k ∧ j < j then clipG (rnd (dotN m b k j b.length) 65536) else dotN m b k j b.length) = dotN m b k j b.length := by simp
              have hdk := hdb k j
              repeat' ((conv => whnf); first | refine hom5.at hlt hlj ?_; rw [e1] | (apply rounded_c; (· omega); (· omega)) | (apply bounded_c; (· omega)) | refine hom5.put2 hlt hlj (fun i f => if i < k ∨ (i = k ∧ f < j + 1) then clipG (rnd (dotN m b i f b.length) 65536) else dotN m b i f b.length) (fun i _ c _ => ?_) (fun H6 hom6 hkp6 => ?_); exact rclipG_aux (f := fun i f => dotN m b i f b.length) rfl i c | ((first | (apply vB; (case h => assumption)) | (apply vA; (case h => assumption)) | (apply vC; (case h => assumption))); (case hk => exact kpA); (case he => omega)) | ((first | (apply vI; (case h => assumption)) | (apply vG; (case h => assumption)) | (apply vK; (case h => assumption))); (case hk => exact kpA); (case he => omega); (case hp => omega); (case' g => intro hr_ hc_)) | ((first | (apply vJ; (case h => assumption)) | (apply vH; (case h => assumption)) | (apply vL; (case h => assumption))); (case hk => exact kpA); (case he => omega); (case' g => intro hr_ hc_)) | (apply drawS_auto mixed tt_ok; (· kernel_rfl)) | apply zZ | apply yA | apply yB | ((first | apply zA | apply zC | apply zE | apply zG); (· assumption)) | ((first | apply zB | apply zD | apply zF | apply zH); (· assumption)) | apply zM | apply zN | apply zO | apply zP | apply zQ | apply zR | apply zS | apply zT | apply zU | (apply zV; (· omega)) | (apply zW; (· omega)) | (apply zX; (· (first | omega | (dsimp only; omega)))) | (apply zY; (try (apply zY; apply zX; (· omega))); apply zX; (· omega); apply zX; (· (first | omega | (dsimp only; omega)))) | ((first | apply yJ | apply yK | apply yL | apply yM | apply yN | apply yO); (· exact hgA); (· exact hsA)) | (apply yNP; (· exact hgA); (· exact hsA)) | ((first | apply zA | apply zC | apply zE | apply zG); (· omega)) | ((first | apply zB | apply zD | apply zF | apply zH); (· omega)) | ((first | apply zI | apply zK); (· assumption)) | ((first | apply zJ | apply zL); (· assumption)) | ((first | apply xA | apply xC | apply xE | apply xG); (· first | assumption | rfl)) | ((first | apply xB | apply xD | apply xF | apply xH); (· first | assumption | kernel_rfl)) | fail)
              conv => whnf
              apply Exists.intro (j + 1, H6)
              refine ⟨?inv, ?mu, ?wk⟩
              case wk =>
                conv => whnf
                refine weakH_of (HW.refl _) ?_
                repeat' (first | exact WT.nil | refine WT.same ?_ | refine WT.drop ?_ | refine WT.int (by omega) ?_ | refine WT.eq (by assumption) ?_ | refine WT.bl (by first | assumption | (symm; assumption)) ?_ | refine WT.vv (by assumption) ?_)
              case mu => first | omega | (dsimp only; omega)
              case inv => exact ⟨by omega, by rw [hkp6.size]; exact hz5, fun x h1 h2 => (hkp6.get x h2).trans (hsame5 x h1 h2), hom6⟩
            · have hjl : j = b[0].length := by omega
              subst hjl
              repeat' ((conv => whnf); first | ((first | (apply vB; (case h => assumption)) | (apply vA; (case h => assumption)) | (apply vC; (case h => assumption))); (case hk => exact kpA); (case he => omega)) | ((first | (apply vI; (case h => assumption)) | (apply vG; (case h => assumption)) | (apply vK; (case h => assumption))); (case hk => exact kpA); (case he => omega); (case hp => omega); (case' g => intro hr_ hc_)) | ((first | (apply vJ; (case h => assumption)) | (apply vH; (case h => assumption)) | (apply vL; (case h => assumption))); (case hk => exact kpA); (case he => omega); (case' g => intro hr_ hc_)) | (apply drawS_auto mixed tt_ok; (· kernel_rfl)) | apply zZ | apply yA | apply yB | ((first | apply zA | apply zC | apply zE | apply zG); (· assumption)) | ((first | apply zB | apply zD | apply zF | apply zH); (· assumption)) | apply zM | apply zN | apply zO | apply zP | apply zQ | apply zR | apply zS | apply zT | apply zU | (apply zV; (· omega)) | (apply zW; (· omega)) | (apply zX; (· (first | omega | (dsimp only; omega)))) | (apply zY; (try (apply zY; apply zX; (· omega))); apply zX; (· omega); apply zX; (· (first | omega | (dsimp only; omega)))) | ((first | apply yJ | apply yK | apply yL | apply yM | apply yN | apply yO); (· exact hgA); (· exact hsA)) | (apply yNP; (· exact hgA); (· exact hsA)) | ((first | apply zA | apply zC | apply zE | apply zG); (· omega)) | ((first | apply zB | apply zD | apply zF | apply zH); (· omega)) | ((first | apply zI | apply zK); (· assumption)) | ((first | apply zJ | apply zL); (· assumption)) | ((first | apply xA | apply xC | apply xE | apply xG); (· first | assumption | rfl)) | ((first | apply xB | apply xD | apply xF | apply xH); (· first | assumption | kernel_rfl)) | fail)
              conv => whnf
              apply Exists.intro (k + 1, H5)
              refine ⟨?inv, ?mu, ?wk⟩
              case wk =>
                conv => whnf
                refine weakH_of (HW.refl _) ?_
                repeat' (first | exact WT.nil | refine WT.same ?_ | refine WT.drop ?_ | refine WT.int (by omega) ?_ | refine WT.eq (by assumption) ?_ | refine WT.bl (by first | assumption | (symm; assumption)) ?_ | refine WT.vv (by assumption) ?_)
              case mu => first | omega | (dsimp only; omega)
              case inv => exact ⟨by omega, hz5, hsame5, hom5.cast _ (fun i _ c hc => by
                have : (i < k ∨ i = k ∧ c < b[0].length) ↔ i < k + 1 := by omega
                simp [this])⟩
          · have hkn : k = m.length := by omega
            subst hkn
            have g64 : H4.get H1.size = some (.cells [.slice (some ⟨o, 0, none⟩) m.length m.length] true 0) := (hsame4 _ (by omega) (nin _ (.inr (by omega)))).trans ((hx _ (by omega) (by omega)).trans g6)
            have ge4 : H4.get (H.size + 1) = some (.cells [iv 0] true 0) := (hsame4 _ (by omega) (nin _ (.inl (by omega)))).trans ((hx _ (by omega) (by omega)).trans ge)
            have gd4 : H4.get (H2.size + 1) = some (.deferred []) := (hsame4 _ (by omega) (nin _ (.inr (by omega)))).trans ((hx _ (by omega) (by omega)).trans gd)
            have hle4 : H.le H4 := ⟨by omega, fun j hj => (hsame4 j (by omega) (nin j (.inl (by omega)))).trans (hleHr.get j hj)⟩
            have hom6 := hom4.cast (joF m b) (fun i hi c hc => by simp [hi, joF])
            have hbd : ∀ x, x = o ∨ x ∈ rs → H.size + 2 ≤ x ∧ x < H1.size := fun x hx => by
              rcases hx with rfl | hx
              · exact ho1
              · exact ⟨hlo x hx, hlt1 x hx⟩
            repeat' ((conv => whnf); first | (apply caught_ret; (· exact hoA); (· exact hgA); intro H5 hle5 hg5) | ((first | (apply vB; (case h => assumption)) | (apply vA; (case h => assumption)) | (apply vC; (case h => assumption))); (case hk => exact kpA); (case he => omega)) | ((first | (apply vI; (case h => assumption)) | (apply vG; (case h => assumption)) | (apply vK; (case h => assumption))); (case hk => exact kpA); (case he => omega); (case hp => omega); (case' g => intro hr_ hc_)) | ((first | (apply vJ; (case h => assumption)) | (apply vH; (case h => assumption)) | (apply vL; (case h => assumption))); (case hk => exact kpA); (case he => omega); (case' g => intro hr_ hc_)) | (apply drawS_auto mixed tt_ok; (· kernel_rfl)) | apply zZ | apply yA | apply yB | ((first | apply zA | apply zC | apply zE | apply zG); (· assumption)) | ((first | apply zB | apply zD | apply zF | apply zH); (· assumption)) | apply zM | apply zN | apply zO | apply zP | apply zQ | apply zR | apply zS | apply zT | apply zU | (apply zV; (· omega)) | (apply zW; (· omega)) | (apply zX; (· (first | omega | (dsimp only; omega)))) | (apply zY; (try (apply zY; apply zX; (· omega))); apply zX; (· omega); apply zX; (· (first | omega | (dsimp only; omega)))) | ((first | apply yJ | apply yK | apply yL | apply yM | apply yN | apply yO); (· exact hgA); (· exact hsA)) | (apply yNP; (· exact hgA); (· exact hsA)) | ((first | apply zA | apply zC | apply zE | apply zG); (· omega)) | ((first | apply zB | apply zD | apply zF | apply zH); (· omega)) | ((first | apply zI | apply zK); (· assumption)) | ((first | apply zJ | apply zL); (· assumption)) | ((first | apply xA | apply xC | apply xE | apply xG); (· first | assumption | rfl)) | ((first | apply xB | apply xD | apply xF | apply xH); (· first | assumption | kernel_rfl)) | fail)
            conv => whnf
            have hs5 : H4.size ≤ H5.size := hle5.size
            have hom7 := hom6.of_get (H' := H5) hs5 (fun x h1 h2 => (hle5.get x (by simpa using h1)).trans (by
              obtain ⟨h3, h4⟩ := hbd x h2
              (repeat (first | exact rfl | (refine (yR _ _ ?_).trans ?_; (· exact hoA)) | (refine (yS _ _ ?_).trans ?_; (· exact hoA)) | (refine (yT _ ?_).trans ?_; (· exact hoA))))))
            refine ⟨_, HW.fz _ H.size, h _ _ _ (AHeap.le.fz (AHeap.le.trans leA hle5) (Nat.le_refl _)) (hom7.fzF (by omega) (by unfold maxN; omega) (by unfold maxN; omega) (fun i _ c _ => by unfold inR joF clipG; omega))⟩
      · have hE : joE m b = 11 := by rw [joE, if_pos ⟨hvm, hvb⟩, frames0 hm0, if_neg hd]
        refine callS_walk tt_ok Try.func11 rfl (by kernel_rfl) ?_
        conv => whnf
        repeat' ((conv => whnf); first | refine validM_v mtA hvb ?_ | refine validM_v mtA hvm ?_ | (apply must_ok; (· (first | rfl | assumption | exact decide_eq_true (by omega)))) | (apply must_no; (· (first | rfl | assumption | exact decide_eq_false (by omega)))) | (apply caught_panic; (· exact hoA); (· exact hgA); intro H2 hle2 hg2) | ((first | (apply vB; (case h => assumption)) | (apply vA; (case h => assumption)) | (apply vC; (case h => assumption))); (case hk => exact kpA); (case he => omega)) | ((first | (apply vI; (case h => assumption)) | (apply vG; (case h => assumption)) | (apply vK; (case h => assumption))); (case hk => exact kpA); (case he => omega); (case hp => omega); (case' g => intro hr_ hc_)) | ((first | (apply vJ; (case h => assumption)) | (apply vH; (case h => assumption)) | (apply vL; (case h => assumption))); (case hk => exact kpA); (case he => omega); (case' g => intro hr_ hc_)) | (apply drawS_auto mixed tt_ok; (· kernel_rfl)) | apply zZ | apply yA | apply yB | ((first | apply zA | apply zC | apply zE | apply zG); (· assumption)) | ((first | apply zB | apply zD | apply zF | apply zH); (· assumption)) | apply zM | apply zN | apply zO | apply zP | apply zQ | apply zR | apply zS | apply zT | apply zU | (apply zV; (· omega)) | (apply zW; (· omega)) | (apply zX; (· (first | omega | (dsimp only; omega)))) | (apply zY; (try (apply zY; apply zX; (· omega))); apply zX; (· omega); apply zX; (· (first | omega | (dsimp only; omega)))) | ((first | apply yJ | apply yK | apply yL | apply yM | apply yN | apply yO); (· exact hgA); (· exact hsA)) | (apply yNP; (· exact hgA); (· exact hsA)) | ((first | apply zA | apply zC | apply zE | apply zG); (· omega)) | ((first | apply zB | apply zD | apply zF | apply zH); (· omega)) | ((first | apply zI | apply zK); (· assumption)) | ((first | apply zJ | apply zL); (· assumption)) | ((first | apply xA | apply xC | apply xE | apply xG); (· first | assumption | rfl)) | ((first | apply xB | apply xD | apply xF | apply xH); (· first | assumption | kernel_rfl)) | fail)
        conv => whnf
        exact bad_ 11 hE (by omega) _ (AHeap.le.trans leA hle2)
theorem jfill_aux {f : Nat → Nat → Int} {k j : Nat} {v : Int} (hv : v = f k j) (i c : Nat) :
    (if i = k ∧ c = j then v else if i < k ∨ i = k ∧ c < j then f i c else 0) = if i < k ∨ i = k ∧ c < j + 1 then f i c else 0 := by
  by_cases h1 : i = k ∧ c = j
  · obtain ⟨rfl, rfl⟩ := h1
    rw [if_pos ⟨rfl, rfl⟩, if_pos (by omega), hv]
  · rw [if_neg h1]
    by_cases h2 : i < k ∨ i = k ∧ c < j
    · rw [if_pos h2, if_pos (by omega)]
    · rw [if_neg h2, if_neg (by omega)]
theorem refJoin_c {p q : Option Addr} {c1 c2 : Nat} {m b : List (List Int)} {H : AHeap} {K : CK} (hm : Mat H p m) (hb : Mat H q b)
    (h : ∀ H' p' c', H.le H' → Mat H' p' (joM m b) → K (.returned (.tuple #[.slice p' (joM m b).length c', iv (joE m b)])) H') : callS P (fnV 12) [.slice q b.length c2, .slice p m.length c1] H K := by
  have bad_ : ∀ e, joE m b = e → e ≠ 0 → K (.returned (.tuple #[.slice none 0 0, iv e])) H := fun e he hne => by
    have hM : joM m b = [] := by unfold joM; rw [he, if_neg hne]
    have := h H none 0 (AHeap.le.refl _) (by rw [hM]; exact .nil)
    rw [hM, he] at this; exact this
  cases hvb : matB b with
  | false =>
    have hE : joE m b = 1 := by simp [joE, hvb]
    refine callS_walk tt_ok Try.func12 rfl (by kernel_rfl) ?_
    conv => whnf
    repeat' ((conv => whnf); first | refine refValidM_v hb hvb ?_ | ((first | (apply vB; (case h => assumption)) | (apply vA; (case h => assumption)) | (apply vC; (case h => assumption))); (case hk => exact kpA); (case he => omega)) | ((first | (apply vI; (case h => assumption)) | (apply vG; (case h => assumption)) | (apply vK; (case h => assumption))); (case hk => exact kpA); (case he => omega); (case hp => omega); (case' g => intro hr_ hc_)) | ((first | (apply vJ; (case h => assumption)) | (apply vH; (case h => assumption)) | (apply vL; (case h => assumption))); (case hk => exact kpA); (case he => omega); (case' g => intro hr_ hc_)) | (apply drawS_auto mixed tt_ok; (· kernel_rfl)) | apply zZ | apply yA | apply yB | ((first | apply zA | apply zC | apply zE | apply zG); (· assumption)) | ((first | apply zB | apply zD | apply zF | apply zH); (· assumption)) | apply zM | apply zN | apply zO | apply zP | apply zQ | apply zR | apply zS | apply zT | apply zU | (apply zV; (· omega)) | (apply zW; (· omega)) | (apply zX; (· (first | omega | (dsimp only; omega)))) | (apply zY; (try (apply zY; apply zX; (· omega))); apply zX; (· omega); apply zX; (· (first | omega | (dsimp only; omega)))) | ((first | apply yJ | apply yK | apply yL | apply yM | apply yN | apply yO); (· exact hgA); (· exact hsA)) | (apply yNP; (· exact hgA); (· exact hsA)) | ((first | apply zA | apply zC | apply zE | apply zG); (· omega)) | ((first | apply zB | apply zD | apply zF | apply zH); (· omega)) | ((first | apply zI | apply zK); (· assumption)) | ((first | apply zJ | apply zL); (· assumption)) | fail)
    conv => whnf
    exact bad_ 1 hE (by omega)
  | true =>
    cases hvm : matB m with
    | false =>
      have hE : joE m b = 1 := by simp [joE, hvm]
      refine callS_walk tt_ok Try.func12 rfl (by kernel_rfl) ?_
      conv => whnf
      repeat' ((conv => whnf); first | refine refValidM_v hb hvb ?_ | refine refValidM_v hm hvm ?_ | ((first | (apply vB; (case h => assumption)) | (apply vA; (case h => assumption)) | (apply vC; (case h => assumption))); (case hk => exact kpA); (case he => omega)) | ((first | (apply vI; (case h => assumption)) | (apply vG; (case h => assumption)) | (apply vK; (case h => assumption))); (case hk => exact kpA); (case he => omega); (case hp => omega); (case' g => intro hr_ hc_)) | ((first | (apply vJ; (case h => assumption)) | (apply vH; (case h => assumption)) | (apply vL; (case h => assumption))); (case hk => exact kpA); (case he => omega); (case' g => intro hr_ hc_)) | (apply drawS_auto mixed tt_ok; (· kernel_rfl)) | apply zZ | apply yA | apply yB | ((first | apply zA | apply zC | apply zE | apply zG); (· assumption)) | ((first | apply zB | apply zD | apply zF | apply zH); (· assumption)) | apply zM | apply zN | apply zO | apply zP | apply zQ | apply zR | apply zS | apply zT | apply zU | (apply zV; (· omega)) | (apply zW; (· omega)) | (apply zX; (· (first | omega | (dsimp only; omega)))) | (apply zY; (try (apply zY; apply zX; (· omega))); apply zX; (· omega); apply zX; (· (first | omega | (dsimp only; omega)))) | ((first | apply yJ | apply yK | apply yL | apply yM | apply yN | apply yO); (· exact hgA); (· exact hsA)) | (apply yNP; (· exact hgA); (· exact hsA)) | ((first | apply zA | apply zC | apply zE | apply zG); (· omega)) | ((first | apply zB | apply zD | apply zF | apply zH); (· omega)) | ((first | apply zI | apply zK); (· assumption)) | ((first | apply zJ | apply zL); (· assumption)) | fail)
      conv => whnf
      exact bad_ 1 hE (by omega)
    | true =>
      obtain ⟨⟨hm1, hm8⟩, ⟨hw1, hw8⟩, hmr⟩ := matB_rows hvm
      obtain ⟨⟨hb1, hb8⟩, ⟨hv1, hv8⟩, hbr⟩ := matB_rows hvb
      have hm0 : 0 < m.length := hm1
      have hb0 : 0 < b.length := hb1
      rw [frames0 hm0] at hw1 hw8 hmr
      rw [frames0 hb0] at hv1 hv8 hbr
      obtain ⟨i0, off, rfl⟩ := hm.at hm0
      obtain ⟨i1, off1, rfl⟩ := hb.at hb0
      by_cases hd : m[0].length = b.length
      · have hE : joE m b = 0 := by rw [joE, if_pos ⟨hvm, hvb⟩, frames0 hm0, if_pos hd]
        have hM : joM m b = matF (joF m b) m.length b[0].length := by rw [joM, if_pos hE, frames0 hb0]
        rw [hE, hM, matF_len] at h
        have hdb : ∀ i f n, n ≤ 8 → -43980465111040 ≤ dotN m b i f n ∧ dotN m b i f n ≤ 43980465111040 := fun i f n hn => by
          have := dotN_bd (A := 655360) (B := 655360) (by omega) (by omega) (fun r hr => (hmr r hr).2) (fun r hr => (hbr r hr).2) i f n
          have hk8 : (n : Int) * (655360 * 655360) ≤ 8 * (655360 * 655360) := Int.mul_le_mul_of_nonneg_right (by omega) (by omega)
          omega
        refine callS_post ?_
        refine callS_walk tt_ok Try.func12 rfl (by kernel_rfl) ?_
        conv => whnf
        repeat' ((conv => whnf); first | refine refValidM_v hb hvb ?_ | refine refValidM_v hm hvm ?_ | refine nothingF_c (n := m.length) (m := b[0].length) ⟨by omega, by omega, by omega⟩ (fun H1 o rs hle hom => ?_) | ((first | (apply vB; (case h => assumption)) | (apply vA; (case h => assumption)) | (apply vC; (case h => assumption))); (case hk => exact kpA); (case he => omega)) | ((first | (apply vI; (case h => assumption)) | (apply vG; (case h => assumption)) | (apply vK; (case h => assumption))); (case hk => exact kpA); (case he => omega); (case hp => omega); (case' g => intro hr_ hc_)) | ((first | (apply vJ; (case h => assumption)) | (apply vH; (case h => assumption)) | (apply vL; (case h => assumption))); (case hk => exact kpA); (case he => omega); (case' g => intro hr_ hc_)) | (apply drawS_auto mixed tt_ok; (· kernel_rfl)) | apply zZ | apply yA | apply yB | ((first | apply zA | apply zC | apply zE | apply zG); (· assumption)) | ((first | apply zB | apply zD | apply zF | apply zH); (· assumption)) | apply zM | apply zN | apply zO | apply zP | apply zQ | apply zR | apply zS | apply zT | apply zU | (apply zV; (· omega)) | (apply zW; (· omega)) | (apply zX; (· (first | omega | (dsimp only; omega)))) | (apply zY; (try (apply zY; apply zX; (· omega))); apply zX; (· omega); apply zX; (· (first | omega | (dsimp only; omega)))) | ((first | apply yJ | apply yK | apply yL | apply yM | apply yN | apply yO); (· exact hgA); (· exact hsA)) | (apply yNP; (· exact hgA); (· exact hsA)) | ((first | apply zA | apply zC | apply zE | apply zG); (· omega)) | ((first | apply zB | apply zD | apply zF | apply zH); (· omega)) | ((first | apply zI | apply zK); (· assumption)) | ((first | apply zJ | apply zL); (· assumption)) | fail)
        conv => whnf
        refine loopS_mask tt_ok (fun (i : Nat × AHeap) => [.k, .k, .w, .w, .w, .w, .k, .p (iv i.1), .w, .w, .w, .w, .w, .w, .w, .w, .w, .w, .w, .w, .w, .w, .w, .w, .w, .w, .w, .w, .w, .w, .w, .w, .w, .w, .w, .w, .w, .w, .w, .w, .w, .w, .w, .w, .w, .w, .w, .w, .w, .w, .w, .w, .w, .w, .w, .w, .w, .w, .w, .w, .w, .w, .w, .w, .w, .w, .w, .w, .w, .w, .w, .w, .w, .w, .w, .w, .w, .w, .w, .w, .w, .w, .w]) (fun (i : Nat × AHeap) => i.2) (fun (i : Nat × AHeap) => i.1 ≤ m.length ∧ H.le i.2 ∧ OMat i.2 H.size o rs (matF (fun a c => if a < i.1 then joF m b a c else 0) m.length b[0].length) []) (fun (i : Nat × AHeap) => m.length - i.1) (⟨0, H1⟩) (⟨by omega, hle, hom.cast _ (fun i hi c hc => by simp)⟩) ?_ (fun i hi => ?_)
        · conv => whnf
          refine weakH_of (HW.refl _) ?_
          repeat' (first | exact WT.nil | refine WT.same ?_ | refine WT.drop ?_ | refine WT.int (by omega) ?_ | refine WT.eq (by assumption) ?_ | refine WT.bl (by first | assumption | (symm; assumption)) ?_ | refine WT.vv (by assumption) ?_)
        obtain ⟨i, H2⟩ := i
        obtain ⟨hi, hle2, hom2⟩ := hi
        dsimp only at hi hle2 hom2 ⊢
        by_cases hlt : i < m.length
        · have hml := (hmr m[i] (List.getElem_mem _)).1
          repeat' ((conv => whnf); first | ((first | (apply vB; (case h => assumption)) | (apply vA; (case h => assumption)) | (apply vC; (case h => assumption))); (case hk => exact kpA); (case he => omega)) | ((first | (apply vI; (case h => assumption)) | (apply vG; (case h => assumption)) | (apply vK; (case h => assumption))); (case hk => exact kpA); (case he => omega); (case hp => omega); (case' g => intro hr_ hc_)) | ((first | (apply vJ; (case h => assumption)) | (apply vH; (case h => assumption)) | (apply vL; (case h => assumption))); (case hk => exact kpA); (case he => omega); (case' g => intro hr_ hc_)) | (apply drawS_auto mixed tt_ok; (· kernel_rfl)) | apply zZ | apply yA | apply yB | ((first | apply zA | apply zC | apply zE | apply zG); (· assumption)) | ((first | apply zB | apply zD | apply zF | apply zH); (· assumption)) | apply zM | apply zN | apply zO | apply zP | apply zQ | apply zR | apply zS | apply zT | apply zU | (apply zV; (· omega)) | (apply zW; (· omega)) | (apply zX; (· (first | omega | (dsimp only; omega)))) | (apply zY; (try (apply zY; apply zX; (· omega))); apply zX; (· omega); apply zX; (· (first | omega | (dsimp only; omega)))) | ((first | apply yJ | apply yK | apply yL | apply yM | apply yN | apply yO); (· exact hgA); (· exact hsA)) | (apply yNP; (· exact hgA); (· exact hsA)) | ((first | apply zA | apply zC | apply zE | apply zG); (· omega)) | ((first | apply zB | apply zD | apply zF | apply zH); (· omega)) | ((first | apply zI | apply zK); (· assumption)) | ((first | apply zJ | apply zL); (· assumption)) | fail)
          conv => whnf
          refine loopS_mask tt_ok (fun (k : Nat × AHeap) => [.k, .k, .w, .w, .w, .w, .k, .k, .p (iv k.1), .w, .w, .w, .w, .w, .w, .w, .w, .w, .w, .w, .w, .w, .w, .w, .w, .w, .w, .w, .w, .w, .w, .w, .w, .w, .w, .w, .w, .w, .w, .w, .w, .w, .w, .w, .w, .w, .w, .w, .w, .w, .w, .w, .w, .w, .w, .w, .w, .w, .w, .w, .w, .w, .w, .w, .w, .w, .w, .w, .w, .w, .w, .w, .w, .w, .w, .w, .w, .w, .w, .w, .w, .w, .w]) (fun (k : Nat × AHeap) => k.2) (fun (k : Nat × AHeap) => k.1 ≤ b[0].length ∧ H.le k.2 ∧ OMat k.2 H.size o rs (matF (fun a c => if a < i ∨ (a = i ∧ c < k.1) then joF m b a c else 0) m.length b[0].length) []) (fun (k : Nat × AHeap) => b[0].length - k.1) (⟨0, H2⟩) (⟨by omega, hle2, hom2.cast _ (fun i hi c hc => by simp)⟩) ?_ (fun k hk => ?_)
          · conv => whnf
            refine weakH_of (HW.refl _) ?_
            repeat' (first | exact WT.nil | refine WT.same ?_ | refine WT.drop ?_ | refine WT.int (by omega) ?_ | refine WT.eq (by assumption) ?_ | refine WT.bl (by first | assumption | (symm; assumption)) ?_ | refine WT.vv (by assumption) ?_)
          obtain ⟨k, H3⟩ := k
          obtain ⟨hk, hle3, hom3⟩ := hk
          dsimp only at hk hle3 hom3 ⊢
          have hkp3 := hle3.kp
          by_cases hlk : k < b[0].length
          · skip
            repeat' ((conv => whnf); first | refine hom3.row hlt ?_ | ((first | (apply vB; (case h => assumption)) | (apply vA; (case h => assumption)) | (apply vC; (case h => assumption))); (case hk => exact kpA); (case he => omega)) | ((first | (apply vI; (case h => assumption)) | (apply vG; (case h => assumption)) | (apply vK; (case h => assumption))); (case hk => exact kpA); (case he => omega); (case hp => omega); (case' g => intro hr_ hc_)) | ((first | (apply vJ; (case h => assumption)) | (apply vH; (case h => assumption)) | (apply vL; (case h => assumption))); (case hk => exact kpA); (case he => omega); (case' g => intro hr_ hc_)) | (apply drawS_auto mixed tt_ok; (· kernel_rfl)) | apply zZ | apply yA | apply yB | ((first | apply zA | apply zC | apply zE | apply zG); (· assumption)) | ((first | apply zB | apply zD | apply zF | apply zH); (· assumption)) | apply zM | apply zN | apply zO | apply zP | apply zQ | apply zR | apply zS | apply zT | apply zU | (apply zV; (· omega)) | (apply zW; (· omega)) | (apply zX; (· (first | omega | (dsimp only; omega)))) | (apply zY; (try (apply zY; apply zX; (· omega))); apply zX; (· omega); apply zX; (· (first | omega | (dsimp only; omega)))) | ((first | apply yJ | apply yK | apply yL | apply yM | apply yN | apply yO); (· exact hgA); (· exact hsA)) | (apply yNP; (· exact hgA); (· exact hsA)) | ((first | apply zA | apply zC | apply zE | apply zG); (· omega)) | ((first | apply zB | apply zD | apply zF | apply zH); (· omega)) | ((first | apply zI | apply zK); (· assumption)) | ((first | apply zJ | apply zL); (· assumption)) | fail)
            conv => whnf
            refine loopS_mask tt_ok (fun (j : Nat) => [.k, .k, .w, .w, .w, .w, .k, .k, .k, .p (iv (dotN m b i k j)), .p (iv j), .w, .w, .w, .w, .w, .w, .w, .w, .w, .w, .w, .w, .w, .w, .w, .w, .w, .w, .w, .w, .w, .w, .w, .w, .w, .w, .w, .w, .w, .w, .w, .w, .w, .w, .w, .w, .w, .w, .w, .w, .w, .w, .w, .w, .w, .w, .w, .w, .w, .w, .w, .w, .w, .w, .w, .w, .w, .w, .w, .w, .w, .w, .w, .w, .w, .w, .w, .w, .w, .w, .w, .w]) (fun (j : Nat) => H3) (fun (j : Nat) => j ≤ b.length) (fun (j : Nat) => b.length - j) (0) (by omega) ?_ (fun j hj => ?_)
            · conv => whnf
              refine weakH_of (HW.refl _) ?_
              repeat' (first | exact WT.nil | refine WT.same ?_ | refine WT.drop ?_ | refine WT.int (by omega) ?_ | refine WT.eq (by assumption) ?_ | refine WT.bl (by first | assumption | (symm; assumption)) ?_ | refine WT.vv (by assumption) ?_)
            by_cases hlj : j < b.length
            · have hbl := (hbr b[j] (List.getElem_mem _)).1
              have hjm : j < m[i].length := by omega
              have hkb : k < b[j].length := by omega
              have hx := (hmr m[i] (List.getElem_mem _)).2 m[i][j] (List.getElem_mem _)
              have hy := (hbr b[j] (List.getElem_mem _)).2 b[j][k] (List.getElem_mem _)
              have hxy := mul_bdd (A := 655360) (B := 655360) hx hy
              have hdd := hdb i k j (by omega)
              have hst := dotN_succ m b i k j
              rw [at2_eq hlt hjm, at2_eq hlj hkb] at hst
              repeat' ((conv => whnf); first | ((first | (apply vB; (case h => assumption)) | (apply vA; (case h => assumption)) | (apply vC; (case h => assumption))); (case hk => exact kpA); (case he => omega)) | ((first | (apply vI; (case h => assumption)) | (apply vG; (case h => assumption)) | (apply vK; (case h => assumption))); (case hk => exact kpA); (case he => omega); (case hp => omega); (case' g => intro hr_ hc_)) | ((first | (apply vJ; (case h => assumption)) | (apply vH; (case h => assumption)) | (apply vL; (case h => assumption))); (case hk => exact kpA); (case he => omega); (case' g => intro hr_ hc_)) | (apply drawS_auto mixed tt_ok; (· kernel_rfl)) | apply zZ | apply yA | apply yB | ((first | apply zA | apply zC | apply zE | apply zG); (· assumption)) | ((first | apply zB | apply zD | apply zF | apply zH); (· assumption)) | apply zM | apply zN | apply zO | apply zP | apply zQ | apply zR | apply zS | apply zT | apply zU | (apply zV; (· omega)) | (apply zW; (· omega)) | (apply zX; (· (first | omega | (dsimp only; omega)))) | (apply zY; (try (apply zY; apply zX; (· omega))); apply zX; (· omega); apply zX; (· (first | omega | (dsimp only; omega)))) | ((first | apply yJ | apply yK | apply yL | apply yM | apply yN | apply yO); (· exact hgA); (· exact hsA)) | (apply yNP; (· exact hgA); (· exact hsA)) | ((first | apply zA | apply zC | apply zE | apply zG); (· omega)) | ((first | apply zB | apply zD | apply zF | apply zH); (· omega)) | ((first | apply zI | apply zK); (· assumption)) | ((first | apply zJ | apply zL); (· assumption)) | fail)
              conv => whnf
              refine ⟨j + 1, by omega, by omega, ?_⟩
              conv => whnf
              refine weakH_of (HW.refl _) ?_
              repeat' (first | exact WT.nil | refine WT.same ?_ | refine WT.drop ?_ | refine WT.int (by omega) ?_ | refine WT.eq (by assumption) ?_ | refine WT.bl (by first | assumption | (symm; assumption)) ?_ | refine WT.vv (by assumption) ?_)
            · have hjn : j = b.length := by omega
              subst hjn
              have hdd := hdb i k b.length (by omega)
              repeat' ((conv => whnf); first | (apply refRounded_c; (· omega); (· omega)) | (apply refBounded_c) | refine hom3.row hlt ?_ | refine hom3.put2 hlt hlk (fun a c => if a < i ∨ (a = i ∧ c < k + 1) then joF m b a c else 0) (fun a _ c _ => ?_) (fun H5 hom5 hkp5 => ?_); exact jfill_aux rfl a c | ((first | (apply vB; (case h => assumption)) | (apply vA; (case h => assumption)) | (apply vC; (case h => assumption))); (case hk => exact kpA); (case he => omega)) | ((first | (apply vI; (case h => assumption)) | (apply vG; (case h => assumption)) | (apply vK; (case h => assumption))); (case hk => exact kpA); (case he => omega); (case hp => omega); (case' g => intro hr_ hc_)) | ((first | (apply vJ; (case h => assumption)) | (apply vH; (case h => assumption)) | (apply vL; (case h => assumption))); (case hk => exact kpA); (case he => omega); (case' g => intro hr_ hc_)) | (apply drawS_auto mixed tt_ok; (· kernel_rfl)) | apply zZ | apply yA | apply yB | ((first | apply zA | apply zC | apply zE | apply zG); (· assumption)) | ((first | apply zB | apply zD | apply zF | apply zH); (· assumption)) | apply zM | apply zN | apply zO | apply zP | apply zQ | apply zR | apply zS | apply zT | apply zU | (apply zV; (· omega)) | (apply zW; (· omega)) | (apply zX; (· (first | omega | (dsimp only; omega)))) | (apply zY; (try (apply zY; apply zX; (· omega))); apply zX; (· omega); apply zX; (· (first | omega | (dsimp only; omega)))) | ((first | apply yJ | apply yK | apply yL | apply yM | apply yN | apply yO); (· exact hgA); (· exact hsA)) | (apply yNP; (· exact hgA); (· exact hsA)) | ((first | apply zA | apply zC | apply zE | apply zG); (· omega)) | ((first | apply zB | apply zD | apply zF | apply zH); (· omega)) | ((first | apply zI | apply zK); (· assumption)) | ((first | apply zJ | apply zL); (· assumption)) | fail)
              conv => whnf
              apply Exists.intro (k + 1, H5)
              refine ⟨?inv, ?mu, ?wk⟩
              case wk =>
                conv => whnf
                refine weakH_of (HW.refl _) ?_
                repeat' (first | exact WT.nil | refine WT.same ?_ | refine WT.drop ?_ | refine WT.int (by omega) ?_ | refine WT.eq (by assumption) ?_ | refine WT.bl (by first | assumption | (symm; assumption)) ?_ | refine WT.vv (by assumption) ?_)
              case mu => first | omega | (dsimp only; omega)
              case inv => exact ⟨by omega, hkp5.le _ (by omega) hle3, hom5⟩
          · have hkn : k = b[0].length := by omega
            subst hkn
            repeat' ((conv => whnf); first | refine hom3.row hlt ?_ | ((first | (apply vB; (case h => assumption)) | (apply vA; (case h => assumption)) | (apply vC; (case h => assumption))); (case hk => exact kpA); (case he => omega)) | ((first | (apply vI; (case h => assumption)) | (apply vG; (case h => assumption)) | (apply vK; (case h => assumption))); (case hk => exact kpA); (case he => omega); (case hp => omega); (case' g => intro hr_ hc_)) | ((first | (apply vJ; (case h => assumption)) | (apply vH; (case h => assumption)) | (apply vL; (case h => assumption))); (case hk => exact kpA); (case he => omega); (case' g => intro hr_ hc_)) | (apply drawS_auto mixed tt_ok; (· kernel_rfl)) | apply zZ | apply yA | apply yB | ((first | apply zA | apply zC | apply zE | apply zG); (· assumption)) | ((first | apply zB | apply zD | apply zF | apply zH); (· assumption)) | apply zM | apply zN | apply zO | apply zP | apply zQ | apply zR | apply zS | apply zT | apply zU | (apply zV; (· omega)) | (apply zW; (· omega)) | (apply zX; (· (first | omega | (dsimp only; omega)))) | (apply zY; (try (apply zY; apply zX; (· omega))); apply zX; (· omega); apply zX; (· (first | omega | (dsimp only; omega)))) | ((first | apply yJ | apply yK | apply yL | apply yM | apply yN | apply yO); (· exact hgA); (· exact hsA)) | (apply yNP; (· exact hgA); (· exact hsA)) | ((first | apply zA | apply zC | apply zE | apply zG); (· omega)) | ((first | apply zB | apply zD | apply zF | apply zH); (· omega)) | ((first | apply zI | apply zK); (· assumption)) | ((first | apply zJ | apply zL); (· assumption)) | fail)
            conv => whnf
            apply Exists.intro (i + 1, H3)
            refine ⟨?inv, ?mu, ?wk⟩
            case wk =>
              conv => whnf
              refine weakH_of (HW.refl _) ?_
              repeat' (first | exact WT.nil | refine WT.same ?_ | refine WT.drop ?_ | refine WT.int (by omega) ?_ | refine WT.eq (by assumption) ?_ | refine WT.bl (by first | assumption | (symm; assumption)) ?_ | refine WT.vv (by assumption) ?_)
            case mu => first | omega | (dsimp only; omega)
            case inv => exact ⟨by omega, hle3, hom3.cast _ (fun a _ c hc => by
              have : (a < i ∨ a = i ∧ c < b[0].length) ↔ a < i + 1 := by omega
              simp [this])⟩
        · have hin : i = m.length := by omega
          subst hin
          repeat' ((conv => whnf); first | ((first | (apply vB; (case h => assumption)) | (apply vA; (case h => assumption)) | (apply vC; (case h => assumption))); (case hk => exact kpA); (case he => omega)) | ((first | (apply vI; (case h => assumption)) | (apply vG; (case h => assumption)) | (apply vK; (case h => assumption))); (case hk => exact kpA); (case he => omega); (case hp => omega); (case' g => intro hr_ hc_)) | ((first | (apply vJ; (case h => assumption)) | (apply vH; (case h => assumption)) | (apply vL; (case h => assumption))); (case hk => exact kpA); (case he => omega); (case' g => intro hr_ hc_)) | (apply drawS_auto mixed tt_ok; (· kernel_rfl)) | apply zZ | apply yA | apply yB | ((first | apply zA | apply zC | apply zE | apply zG); (· assumption)) | ((first | apply zB | apply zD | apply zF | apply zH); (· assumption)) | apply zM | apply zN | apply zO | apply zP | apply zQ | apply zR | apply zS | apply zT | apply zU | (apply zV; (· omega)) | (apply zW; (· omega)) | (apply zX; (· (first | omega | (dsimp only; omega)))) | (apply zY; (try (apply zY; apply zX; (· omega))); apply zX; (· omega); apply zX; (· (first | omega | (dsimp only; omega)))) | ((first | apply yJ | apply yK | apply yL | apply yM | apply yN | apply yO); (· exact hgA); (· exact hsA)) | (apply yNP; (· exact hgA); (· exact hsA)) | ((first | apply zA | apply zC | apply zE | apply zG); (· omega)) | ((first | apply zB | apply zD | apply zF | apply zH); (· omega)) | ((first | apply zI | apply zK); (· assumption)) | ((first | apply zJ | apply zL); (· assumption)) | fail)
          conv => whnf
          have hom6 := hom2.cast (joF m b) (fun i hi c hc => by simp [hi])
          exact ⟨_, HW.fz _ H.size, h _ _ _ (AHeap.le.fz hle2 (Nat.le_refl _)) (hom6.fzF (by omega) (by unfold maxN; omega) (by unfold maxN; omega) (fun i _ c _ => by unfold inR joF clipG; omega))⟩
      · have hE : joE m b = 11 := by rw [joE, if_pos ⟨hvm, hvb⟩, frames0 hm0, if_neg hd]
        refine callS_walk tt_ok Try.func12 rfl (by kernel_rfl) ?_
        conv => whnf
        repeat' ((conv => whnf); first | refine refValidM_v hb hvb ?_ | refine refValidM_v hm hvm ?_ | ((first | (apply vB; (case h => assumption)) | (apply vA; (case h => assumption)) | (apply vC; (case h => assumption))); (case hk => exact kpA); (case he => omega)) | ((first | (apply vI; (case h => assumption)) | (apply vG; (case h => assumption)) | (apply vK; (case h => assumption))); (case hk => exact kpA); (case he => omega); (case hp => omega); (case' g => intro hr_ hc_)) | ((first | (apply vJ; (case h => assumption)) | (apply vH; (case h => assumption)) | (apply vL; (case h => assumption))); (case hk => exact kpA); (case he => omega); (case' g => intro hr_ hc_)) | (apply drawS_auto mixed tt_ok; (· kernel_rfl)) | apply zZ | apply yA | apply yB | ((first | apply zA | apply zC | apply zE | apply zG); (· assumption)) | ((first | apply zB | apply zD | apply zF | apply zH); (· assumption)) | apply zM | apply zN | apply zO | apply zP | apply zQ | apply zR | apply zS | apply zT | apply zU | (apply zV; (· omega)) | (apply zW; (· omega)) | (apply zX; (· (first | omega | (dsimp only; omega)))) | (apply zY; (try (apply zY; apply zX; (· omega))); apply zX; (· omega); apply zX; (· (first | omega | (dsimp only; omega)))) | ((first | apply yJ | apply yK | apply yL | apply yM | apply yN | apply yO); (· exact hgA); (· exact hsA)) | (apply yNP; (· exact hgA); (· exact hsA)) | ((first | apply zA | apply zC | apply zE | apply zG); (· omega)) | ((first | apply zB | apply zD | apply zF | apply zH); (· omega)) | ((first | apply zI | apply zK); (· assumption)) | ((first | apply zJ | apply zL); (· assumption)) | fail)
        conv => whnf
        exact bad_ 11 hE (by omega)
end Go.Abs
