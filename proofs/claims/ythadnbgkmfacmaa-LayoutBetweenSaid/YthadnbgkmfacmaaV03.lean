/- Contracts of Pick: the program's and the reference's; what is picked is plain, and is what Between tells. -/
import Derived.Test.YthadnbgkmfacmaaU03
import Derived.Test.YthadnbgkmfacmaaP03
set_option linter.all false
set_option maxHeartbeats 2000000
set_option maxRecDepth 20000
namespace Go.Abs
open Go Go.Proofs

def picE (l m : List Int) : Int := if layB l = true ∧ layB m = true then if l.length = m.length ∧ ∀ p ∈ m, p ∈ l then 0 else 10 else 1
def picF (l m : List Int) (a c : Nat) : Int := if posI l (m.getD a 0) = c then 65536 else 0
def picM (l m : List Int) : List (List Int) := if picE l m = 0 then matF (picF l m) m.length l.length else []
theorem pic_aux {l m : List Int} {k r a c : Nat} (hk : k < m.length) (hp : posI l m[k] = r) :
    (if a = k ∧ c = r then 65536 else if a < k then picF l m a c else 0) = if a < k + 1 then picF l m a c else 0 := by
  by_cases h1 : a < k
  · rw [if_neg (by omega), if_pos h1, if_pos (by omega)]
  · by_cases h2 : a = k
    · subst h2
      have e : picF l m a c = if (r : Int) = c then 65536 else 0 := by
        unfold picF
        rw [show m.getD a 0 = m[a] by simp [List.getD, hk], hp]
      rw [if_neg h1, if_pos (show a < a + 1 by omega), e]
      by_cases h3 : c = r
      · rw [if_pos ⟨rfl, h3⟩, if_pos (by omega)]
      · rw [if_neg (fun h => h3 h.2), if_neg (by omega)]
    · rw [if_neg (fun h => h2 h.1), if_neg h1, if_neg (by omega)]
theorem all_snoc {m : List Int} {Q : Int → Prop} {k : Nat} (hlt : k < m.length) (h : ∀ x ∈ m.take k, Q x) (hx : Q m[k]) : ∀ x ∈ m.take (k + 1), Q x := fun x hm => by
  rw [take_succ_of hlt] at hm
  rcases List.mem_append.1 hm with hm | hm
  · exact h x hm
  · rw [List.mem_singleton] at hm
    subst hm
    exact hx
theorem pickP_c {p q : Option Addr} {c1 c2 : Nat} {l m : List Int} {H : AHeap} {K : CK} (hf : Row H p l) (ht : Row H q m) (hc1 : CapOk p l.length c1) (hc2 : CapOk q m.length c2)
    (h : ∀ H' p' c', H.le H' → Mat H' p' (picM l m) → K (.returned (.tuple #[.slice p' (picM l m).length c', iv (picE l m)])) H') : callS P (fnV 24) [.slice p l.length c1, .slice q m.length c2] H K := by
  have bad_ : ∀ e, picE l m = e → e ≠ 0 → ∀ H', H.le H' → K (.returned (.tuple #[.slice none 0 0, iv e])) H' := fun e he hne H' hle => by
    have hM : picM l m = [] := by unfold picM; rw [he, if_neg hne]
    have := h H' none 0 hle (by rw [hM]; exact .nil)
    rw [hM, he] at this; exact this
  cases hvf : layB l with
  | false =>
    have hE : picE l m = 1 := by simp [picE, hvf]
    refine callS_walk tt_ok Try.func24 rfl (by kernel_rfl) ?_
    conv => whnf
    repeat' ((conv => whnf); first | refine layP_v (b := false) (hf.kp kpA) hc1 hvf ?_ | (apply must_no; (· (first | rfl | assumption | exact decide_eq_false (by omega)))) | (apply caught_panic; (· exact hoA); (· exact hgA); intro H2 hle2 hg2) | ((first | (apply vB; (case h => with_reducible assumption)) | (apply vA; (case h => with_reducible assumption)) | (apply vC; (case h => with_reducible assumption))); (case hk => exact kpA); (case he => omega)) | ((first | (apply vI; (case h => with_reducible assumption)) | (apply vG; (case h => with_reducible assumption)) | (apply vK; (case h => with_reducible assumption))); (case hk => exact kpA); (case he => omega); (case hp => omega); (case' g => intro hr_ hc_)) | ((first | (apply vJ; (case h => with_reducible assumption)) | (apply vH; (case h => with_reducible assumption)) | (apply vL; (case h => with_reducible assumption))); (case hk => exact kpA); (case he => omega); (case' g => intro hr_ hc_)) | (apply drawS_auto mixed tt_ok; (· kernel_rfl)) | apply zZ | apply yA | apply yB | ((first | apply zA | apply zC | apply zE | apply zG); (· with_reducible assumption)) | ((first | apply zB | apply zD | apply zF | apply zH); (· with_reducible assumption)) | apply zM | apply zN | apply zO | apply zP | apply zQ | apply zR | apply zS | apply zT | apply zU | (apply zV; (· omega)) | (apply zW; (· omega)) | (apply zX; (· (first | omega | (dsimp only; omega)))) | (apply zY; (try (apply zY; apply zX; (· omega))); apply zX; (· omega); apply zX; (· (first | omega | (dsimp only; omega)))) | ((first | apply yJ | apply yK | apply yL | apply yM | apply yN | apply yO); (· exact hgA); (· exact hsA)) | (apply yNP; (· exact hgA); (· exact hsA)) | ((first | apply zA | apply zC | apply zE | apply zG); (· omega)) | ((first | apply zB | apply zD | apply zF | apply zH); (· omega)) | ((first | apply zI | apply zK); (· with_reducible assumption)) | ((first | apply zJ | apply zL); (· with_reducible assumption)) | fail)
    conv => whnf
    exact bad_ 1 hE (by omega) _ (AHeap.le.trans leA hle2)
  | true =>
    cases hvt : layB m with
    | false =>
      have hE : picE l m = 1 := by simp [picE, hvt]
      refine callS_walk tt_ok Try.func24 rfl (by kernel_rfl) ?_
      conv => whnf
      repeat' ((conv => whnf); first | refine layP_v (b := true) (hf.kp kpA) hc1 hvf ?_ | refine layP_v (b := false) (ht.kp kpA) hc2 hvt ?_ | (apply must_no; (· (first | rfl | assumption | exact decide_eq_false (by omega)))) | (apply caught_panic; (· exact hoA); (· exact hgA); intro H2 hle2 hg2) | ((first | (apply vB; (case h => with_reducible assumption)) | (apply vA; (case h => with_reducible assumption)) | (apply vC; (case h => with_reducible assumption))); (case hk => exact kpA); (case he => omega)) | ((first | (apply vI; (case h => with_reducible assumption)) | (apply vG; (case h => with_reducible assumption)) | (apply vK; (case h => with_reducible assumption))); (case hk => exact kpA); (case he => omega); (case hp => omega); (case' g => intro hr_ hc_)) | ((first | (apply vJ; (case h => with_reducible assumption)) | (apply vH; (case h => with_reducible assumption)) | (apply vL; (case h => with_reducible assumption))); (case hk => exact kpA); (case he => omega); (case' g => intro hr_ hc_)) | (apply drawS_auto mixed tt_ok; (· kernel_rfl)) | apply zZ | apply yA | apply yB | ((first | apply zA | apply zC | apply zE | apply zG); (· with_reducible assumption)) | ((first | apply zB | apply zD | apply zF | apply zH); (· with_reducible assumption)) | apply zM | apply zN | apply zO | apply zP | apply zQ | apply zR | apply zS | apply zT | apply zU | (apply zV; (· omega)) | (apply zW; (· omega)) | (apply zX; (· (first | omega | (dsimp only; omega)))) | (apply zY; (try (apply zY; apply zX; (· omega))); apply zX; (· omega); apply zX; (· (first | omega | (dsimp only; omega)))) | ((first | apply yJ | apply yK | apply yL | apply yM | apply yN | apply yO); (· exact hgA); (· exact hsA)) | (apply yNP; (· exact hgA); (· exact hsA)) | ((first | apply zA | apply zC | apply zE | apply zG); (· omega)) | ((first | apply zB | apply zD | apply zF | apply zH); (· omega)) | ((first | apply zI | apply zK); (· with_reducible assumption)) | ((first | apply zJ | apply zL); (· with_reducible assumption)) | fail)
      conv => whnf
      exact bad_ 1 hE (by omega) _ (AHeap.le.trans leA hle2)
    | true =>
      obtain ⟨⟨hf1, hf8⟩, hfr, hfd⟩ := layB_t hvf
      obtain ⟨⟨ht1, ht8⟩, htr, htd⟩ := layB_t hvt
      obtain ⟨i0, off0, rfl⟩ := hf.at (k := 0) (by omega)
      obtain ⟨i1, off1, rfl⟩ := ht.at (k := 0) (by omega)
      by_cases hd : l.length = m.length
      · refine callS_post ?_
        refine callS_walk tt_ok Try.func24 rfl (by kernel_rfl) ?_
        conv => whnf
        repeat' ((conv => whnf); first | refine layP_v (b := true) (hf.kp kpA) hc1 hvf ?_ | refine layP_v (b := true) (ht.kp kpA) hc2 hvt ?_ | (apply must_ok; (· (first | rfl | assumption | exact decide_eq_true (by omega)))) | refine empty_c (n := m.length) (m := l.length) ⟨by omega, by omega⟩ (fun H1 o rs hle1 hom => ?_); (have hs1 : H.size + 1 ≤ H1.size := hle1.size) | ((first | (apply vB; (case h => with_reducible assumption)) | (apply vA; (case h => with_reducible assumption)) | (apply vC; (case h => with_reducible assumption))); (case hk => exact kpA); (case he => omega)) | ((first | (apply vI; (case h => with_reducible assumption)) | (apply vG; (case h => with_reducible assumption)) | (apply vK; (case h => with_reducible assumption))); (case hk => exact kpA); (case he => omega); (case hp => omega); (case' g => intro hr_ hc_)) | ((first | (apply vJ; (case h => with_reducible assumption)) | (apply vH; (case h => with_reducible assumption)) | (apply vL; (case h => with_reducible assumption))); (case hk => exact kpA); (case he => omega); (case' g => intro hr_ hc_)) | (apply drawS_auto mixed tt_ok; (· kernel_rfl)) | apply zZ | apply yA | apply yB | ((first | apply zA | apply zC | apply zE | apply zG); (· with_reducible assumption)) | ((first | apply zB | apply zD | apply zF | apply zH); (· with_reducible assumption)) | apply zM | apply zN | apply zO | apply zP | apply zQ | apply zR | apply zS | apply zT | apply zU | (apply zV; (· omega)) | (apply zW; (· omega)) | (apply zX; (· (first | omega | (dsimp only; omega)))) | (apply zY; (try (apply zY; apply zX; (· omega))); apply zX; (· omega); apply zX; (· (first | omega | (dsimp only; omega)))) | ((first | apply yJ | apply yK | apply yL | apply yM | apply yN | apply yO); (· exact hgA); (· exact hsA)) | (apply yNP; (· exact hgA); (· exact hsA)) | ((first | apply zA | apply zC | apply zE | apply zG); (· omega)) | ((first | apply zB | apply zD | apply zF | apply zH); (· omega)) | ((first | apply zI | apply zK); (· with_reducible assumption)) | ((first | apply zJ | apply zL); (· with_reducible assumption)) | fail)
        conv => whnf
        refine loopS_mask tt_ok (fun (k : Nat × AHeap) => [.k, .w, .w, .w, .k, .k, .k, .w, .w, .w, .w, .w, .w, .w, .w, .w, .w, .w, .w, .w, .w, .w, .w, .w, .w, .w, .w, .w, .k, .k, .p (iv k.1), .w, .w, .w, .w, .w, .w, .w, .w, .w, .w, .w, .w, .w, .w, .w, .w, .w, .w]) (fun (k : Nat × AHeap) => k.2) (fun (k : Nat × AHeap) => k.1 ≤ m.length ∧ H1.size ≤ k.2.size ∧ (∀ x, x < H1.size → x ∉ rs → k.2.get x = H1.get x) ∧ OMat k.2 (H.size + 1) o rs (matF (fun a c => if a < k.1 then picF l m a c else 0) m.length l.length) [] ∧ ∀ x ∈ m.take k.1, x ∈ l) (fun (k : Nat × AHeap) => m.length - k.1) (⟨0, H1⟩) (⟨by omega, Nat.le_refl _, fun _ _ _ => rfl, hom.cast _ (fun a _ c _ => by simp), by simp⟩) ?_ (fun k hk => ?_)
        · conv => whnf
          refine weakH_of (HW.refl _) ?_
          repeat' (first | exact WT.nil | refine WT.same ?_ | refine WT.drop ?_ | refine WT.int (by omega) ?_ | refine WT.eq (by assumption) ?_ | refine WT.bl (by first | assumption | (symm; assumption)) ?_ | refine WT.vv (by assumption) ?_)
        obtain ⟨k, HH⟩ := k
        obtain ⟨hk, hsz, hsame, homk, hall⟩ := hk
        dsimp only at hk hsz hsame homk hall ⊢
        have hleH : H.le HH := ⟨by omega, fun j hj => (hsame j (by omega) (homk.notin (by omega))).trans ((hle1.get j hoA).trans hgA)⟩
        have ge : HH.get H.size = some (.cells [iv 0] true 0) := (hsame H.size (by omega) (homk.notin (by omega))).trans ((hle1.get _ hoA).trans hgA)
        have htH := ht.kp hleH.kp
        have hfH := hf.kp hleH.kp
        by_cases hlt : k < m.length
        · by_cases hin : m[k] ∈ l
          · obtain ⟨r, hrl, hrp, hrq⟩ := posI_ex hin
            repeat' ((conv => whnf); first | refine indexI_v hfH hrp ?_ | (apply must_ok; (· (first | rfl | assumption | exact decide_eq_true (by omega)))) | refine homk.row hlt ?_ | refine homk.put2 hlt hrl (fun a c => if a < k + 1 then picF l m a c else 0) (fun a ha c _ => ?_) (fun H5 hom5 hkp5 => ?_); exact pic_aux hlt hrp | ((first | (apply vB; (case h => with_reducible assumption)) | (apply vA; (case h => with_reducible assumption)) | (apply vC; (case h => with_reducible assumption))); (case hk => exact kpA); (case he => omega)) | ((first | (apply vI; (case h => with_reducible assumption)) | (apply vG; (case h => with_reducible assumption)) | (apply vK; (case h => with_reducible assumption))); (case hk => exact kpA); (case he => omega); (case hp => omega); (case' g => intro hr_ hc_)) | ((first | (apply vJ; (case h => with_reducible assumption)) | (apply vH; (case h => with_reducible assumption)) | (apply vL; (case h => with_reducible assumption))); (case hk => exact kpA); (case he => omega); (case' g => intro hr_ hc_)) | (apply drawS_auto mixed tt_ok; (· kernel_rfl)) | apply zZ | apply yA | apply yB | ((first | apply zA | apply zC | apply zE | apply zG); (· with_reducible assumption)) | ((first | apply zB | apply zD | apply zF | apply zH); (· with_reducible assumption)) | apply zM | apply zN | apply zO | apply zP | apply zQ | apply zR | apply zS | apply zT | apply zU | (apply zV; (· omega)) | (apply zW; (· omega)) | (apply zX; (· (first | omega | (dsimp only; omega)))) | (apply zY; (try (apply zY; apply zX; (· omega))); apply zX; (· omega); apply zX; (· (first | omega | (dsimp only; omega)))) | ((first | apply yJ | apply yK | apply yL | apply yM | apply yN | apply yO); (· exact hgA); (· exact hsA)) | (apply yNP; (· exact hgA); (· exact hsA)) | ((first | apply zA | apply zC | apply zE | apply zG); (· omega)) | ((first | apply zB | apply zD | apply zF | apply zH); (· omega)) | ((first | apply zI | apply zK); (· with_reducible assumption)) | ((first | apply zJ | apply zL); (· with_reducible assumption)) | fail)
            conv => whnf
            apply Exists.intro (k + 1, H5)
            refine ⟨?inv, ?mu, ?wk⟩
            case wk =>
              conv => whnf
              refine weakH_of (HW.refl _) ?_
              repeat' (first | exact WT.nil | refine WT.same ?_ | refine WT.drop ?_ | refine WT.int (by omega) ?_ | refine WT.eq (by assumption) ?_ | refine WT.bl (by first | assumption | (symm; assumption)) ?_ | refine WT.vv (by assumption) ?_)
            case mu => first | omega | (dsimp only; omega)
            case inv => exact ⟨by omega, by rw [hkp5.size]; exact hsz, fun x h1 h2 => (hkp5.get x h2).trans (hsame x h1 h2), hom5, all_snoc hlt hall hin⟩
          · have hE : picE l m = 10 := by
              rw [picE, if_pos ⟨hvf, hvt⟩, if_neg (fun hh => hin (hh.2 _ (List.getElem_mem _)))]
            repeat' ((conv => whnf); first | refine indexI_v hfH (posI_no hin) ?_ | (apply must_no; (· (first | rfl | assumption | exact decide_eq_false (by omega)))) | (apply caught_panic; (· exact hoA); (· exact hgA); intro H2 hle2 hg2) | ((first | (apply vB; (case h => with_reducible assumption)) | (apply vA; (case h => with_reducible assumption)) | (apply vC; (case h => with_reducible assumption))); (case hk => exact kpA); (case he => omega)) | ((first | (apply vI; (case h => with_reducible assumption)) | (apply vG; (case h => with_reducible assumption)) | (apply vK; (case h => with_reducible assumption))); (case hk => exact kpA); (case he => omega); (case hp => omega); (case' g => intro hr_ hc_)) | ((first | (apply vJ; (case h => with_reducible assumption)) | (apply vH; (case h => with_reducible assumption)) | (apply vL; (case h => with_reducible assumption))); (case hk => exact kpA); (case he => omega); (case' g => intro hr_ hc_)) | (apply drawS_auto mixed tt_ok; (· kernel_rfl)) | apply zZ | apply yA | apply yB | ((first | apply zA | apply zC | apply zE | apply zG); (· with_reducible assumption)) | ((first | apply zB | apply zD | apply zF | apply zH); (· with_reducible assumption)) | apply zM | apply zN | apply zO | apply zP | apply zQ | apply zR | apply zS | apply zT | apply zU | (apply zV; (· omega)) | (apply zW; (· omega)) | (apply zX; (· (first | omega | (dsimp only; omega)))) | (apply zY; (try (apply zY; apply zX; (· omega))); apply zX; (· omega); apply zX; (· (first | omega | (dsimp only; omega)))) | ((first | apply yJ | apply yK | apply yL | apply yM | apply yN | apply yO); (· exact hgA); (· exact hsA)) | (apply yNP; (· exact hgA); (· exact hsA)) | ((first | apply zA | apply zC | apply zE | apply zG); (· omega)) | ((first | apply zB | apply zD | apply zF | apply zH); (· omega)) | ((first | apply zI | apply zK); (· with_reducible assumption)) | ((first | apply zJ | apply zL); (· with_reducible assumption)) | fail)
            conv => whnf
            exact ⟨_, HW.refl _, bad_ 10 hE (by omega) _ (AHeap.le.trans leA hle2)⟩
        · have hkn : k = m.length := by omega
          subst hkn
          rw [List.take_length] at hall
          have hE : picE l m = 0 := by rw [picE, if_pos ⟨hvf, hvt⟩, if_pos ⟨hd, hall⟩]
          have hM : picM l m = matF (picF l m) m.length l.length := by rw [picM, if_pos hE]
          rw [hE, hM, matF_len] at h
          have hom6 := homk.cast (picF l m) (fun a ha c _ => by simp [ha])
          repeat' ((conv => whnf); first | (apply caught_ret; (· exact hoA); (· exact hgA); intro H5 hle5 hg5) | ((first | (apply vB; (case h => with_reducible assumption)) | (apply vA; (case h => with_reducible assumption)) | (apply vC; (case h => with_reducible assumption))); (case hk => exact kpA); (case he => omega)) | ((first | (apply vI; (case h => with_reducible assumption)) | (apply vG; (case h => with_reducible assumption)) | (apply vK; (case h => with_reducible assumption))); (case hk => exact kpA); (case he => omega); (case hp => omega); (case' g => intro hr_ hc_)) | ((first | (apply vJ; (case h => with_reducible assumption)) | (apply vH; (case h => with_reducible assumption)) | (apply vL; (case h => with_reducible assumption))); (case hk => exact kpA); (case he => omega); (case' g => intro hr_ hc_)) | (apply drawS_auto mixed tt_ok; (· kernel_rfl)) | apply zZ | apply yA | apply yB | ((first | apply zA | apply zC | apply zE | apply zG); (· with_reducible assumption)) | ((first | apply zB | apply zD | apply zF | apply zH); (· with_reducible assumption)) | apply zM | apply zN | apply zO | apply zP | apply zQ | apply zR | apply zS | apply zT | apply zU | (apply zV; (· omega)) | (apply zW; (· omega)) | (apply zX; (· (first | omega | (dsimp only; omega)))) | (apply zY; (try (apply zY; apply zX; (· omega))); apply zX; (· omega); apply zX; (· (first | omega | (dsimp only; omega)))) | ((first | apply yJ | apply yK | apply yL | apply yM | apply yN | apply yO); (· exact hgA); (· exact hsA)) | (apply yNP; (· exact hgA); (· exact hsA)) | ((first | apply zA | apply zC | apply zE | apply zG); (· omega)) | ((first | apply zB | apply zD | apply zF | apply zH); (· omega)) | ((first | apply zI | apply zK); (· with_reducible assumption)) | ((first | apply zJ | apply zL); (· with_reducible assumption)) | fail)
          conv => whnf
          have hs5 : HH.size ≤ H5.size := hle5.size
          have hom7 := hom6.of_get (H' := H5) hs5 (fun x h1 h2 => (hle5.get x (by simpa using h1)).trans (AHeap.set_ne _ _ (by
            rcases h2 with rfl | h2
            · have := hom6.lo.1; omega
            · have := hom6.lo.2 x h2; omega)))
          exact ⟨_, HW.fz _ H.size, h _ _ _ (AHeap.le.fz (AHeap.le.trans leA hle5) (Nat.le_refl _)) (hom7.fzF (by omega) (by unfold maxN; omega) (by unfold maxN; omega) (fun i _ c _ => by unfold picF inR; split <;> omega))⟩
      · have hE : picE l m = 10 := by rw [picE, if_pos ⟨hvf, hvt⟩, if_neg (fun hh => hd hh.1)]
        refine callS_walk tt_ok Try.func24 rfl (by kernel_rfl) ?_
        conv => whnf
        repeat' ((conv => whnf); first | refine layP_v (b := true) (hf.kp kpA) hc1 hvf ?_ | refine layP_v (b := true) (ht.kp kpA) hc2 hvt ?_ | (apply must_ok; (· (first | rfl | assumption | exact decide_eq_true (by omega)))) | (apply must_no; (· (first | rfl | assumption | exact decide_eq_false (by omega)))) | (apply caught_panic; (· exact hoA); (· exact hgA); intro H2 hle2 hg2) | ((first | (apply vB; (case h => with_reducible assumption)) | (apply vA; (case h => with_reducible assumption)) | (apply vC; (case h => with_reducible assumption))); (case hk => exact kpA); (case he => omega)) | ((first | (apply vI; (case h => with_reducible assumption)) | (apply vG; (case h => with_reducible assumption)) | (apply vK; (case h => with_reducible assumption))); (case hk => exact kpA); (case he => omega); (case hp => omega); (case' g => intro hr_ hc_)) | ((first | (apply vJ; (case h => with_reducible assumption)) | (apply vH; (case h => with_reducible assumption)) | (apply vL; (case h => with_reducible assumption))); (case hk => exact kpA); (case he => omega); (case' g => intro hr_ hc_)) | (apply drawS_auto mixed tt_ok; (· kernel_rfl)) | apply zZ | apply yA | apply yB | ((first | apply zA | apply zC | apply zE | apply zG); (· with_reducible assumption)) | ((first | apply zB | apply zD | apply zF | apply zH); (· with_reducible assumption)) | apply zM | apply zN | apply zO | apply zP | apply zQ | apply zR | apply zS | apply zT | apply zU | (apply zV; (· omega)) | (apply zW; (· omega)) | (apply zX; (· (first | omega | (dsimp only; omega)))) | (apply zY; (try (apply zY; apply zX; (· omega))); apply zX; (· omega); apply zX; (· (first | omega | (dsimp only; omega)))) | ((first | apply yJ | apply yK | apply yL | apply yM | apply yN | apply yO); (· exact hgA); (· exact hsA)) | (apply yNP; (· exact hgA); (· exact hsA)) | ((first | apply zA | apply zC | apply zE | apply zG); (· omega)) | ((first | apply zB | apply zD | apply zF | apply zH); (· omega)) | ((first | apply zI | apply zK); (· with_reducible assumption)) | ((first | apply zJ | apply zL); (· with_reducible assumption)) | fail)
        conv => whnf
        exact bad_ 10 hE (by omega) _ (AHeap.le.trans leA hle2)
theorem pickR_c {p q : Option Addr} {c1 c2 : Nat} {l m : List Int} {H : AHeap} {K : CK} (hf : Row H p l) (ht : Row H q m)
    (h : ∀ H' p' c', H.le H' → Mat H' p' (picM l m) → K (.returned (.tuple #[.slice p' (picM l m).length c', iv (picE l m)])) H') : callS P (fnV 25) [.slice p l.length c1, .slice q m.length c2] H K := by
  have bad_ : ∀ e, picE l m = e → e ≠ 0 → ∀ H', H.le H' → K (.returned (.tuple #[.slice none 0 0, iv e])) H' := fun e he hne H' hle => by
    have hM : picM l m = [] := by unfold picM; rw [he, if_neg hne]
    have := h H' none 0 hle (by rw [hM]; exact .nil)
    rw [hM, he] at this; exact this
  cases hvf : layB l with
  | false =>
    have hE : picE l m = 1 := by simp [picE, hvf]
    refine callS_walk tt_ok Try.func25 rfl (by kernel_rfl) ?_
    conv => whnf
    repeat' ((conv => whnf); first | refine layR_v (b := false) (hf.kp kpA) hvf ?_ | ((first | (apply vB; (case h => with_reducible assumption)) | (apply vA; (case h => with_reducible assumption)) | (apply vC; (case h => with_reducible assumption))); (case hk => exact kpA); (case he => omega)) | ((first | (apply vI; (case h => with_reducible assumption)) | (apply vG; (case h => with_reducible assumption)) | (apply vK; (case h => with_reducible assumption))); (case hk => exact kpA); (case he => omega); (case hp => omega); (case' g => intro hr_ hc_)) | ((first | (apply vJ; (case h => with_reducible assumption)) | (apply vH; (case h => with_reducible assumption)) | (apply vL; (case h => with_reducible assumption))); (case hk => exact kpA); (case he => omega); (case' g => intro hr_ hc_)) | (apply drawS_auto mixed tt_ok; (· kernel_rfl)) | apply zZ | apply yA | apply yB | ((first | apply zA | apply zC | apply zE | apply zG); (· with_reducible assumption)) | ((first | apply zB | apply zD | apply zF | apply zH); (· with_reducible assumption)) | apply zM | apply zN | apply zO | apply zP | apply zQ | apply zR | apply zS | apply zT | apply zU | (apply zV; (· omega)) | (apply zW; (· omega)) | (apply zX; (· (first | omega | (dsimp only; omega)))) | (apply zY; (try (apply zY; apply zX; (· omega))); apply zX; (· omega); apply zX; (· (first | omega | (dsimp only; omega)))) | ((first | apply yJ | apply yK | apply yL | apply yM | apply yN | apply yO); (· exact hgA); (· exact hsA)) | (apply yNP; (· exact hgA); (· exact hsA)) | ((first | apply zA | apply zC | apply zE | apply zG); (· omega)) | ((first | apply zB | apply zD | apply zF | apply zH); (· omega)) | ((first | apply zI | apply zK); (· with_reducible assumption)) | ((first | apply zJ | apply zL); (· with_reducible assumption)) | fail)
    conv => whnf
    exact bad_ 1 hE (by omega) _ leA
  | true =>
    cases hvt : layB m with
    | false =>
      have hE : picE l m = 1 := by simp [picE, hvt]
      refine callS_walk tt_ok Try.func25 rfl (by kernel_rfl) ?_
      conv => whnf
      repeat' ((conv => whnf); first | refine layR_v (b := true) (hf.kp kpA) hvf ?_ | refine layR_v (b := false) (ht.kp kpA) hvt ?_ | ((first | (apply vB; (case h => with_reducible assumption)) | (apply vA; (case h => with_reducible assumption)) | (apply vC; (case h => with_reducible assumption))); (case hk => exact kpA); (case he => omega)) | ((first | (apply vI; (case h => with_reducible assumption)) | (apply vG; (case h => with_reducible assumption)) | (apply vK; (case h => with_reducible assumption))); (case hk => exact kpA); (case he => omega); (case hp => omega); (case' g => intro hr_ hc_)) | ((first | (apply vJ; (case h => with_reducible assumption)) | (apply vH; (case h => with_reducible assumption)) | (apply vL; (case h => with_reducible assumption))); (case hk => exact kpA); (case he => omega); (case' g => intro hr_ hc_)) | (apply drawS_auto mixed tt_ok; (· kernel_rfl)) | apply zZ | apply yA | apply yB | ((first | apply zA | apply zC | apply zE | apply zG); (· with_reducible assumption)) | ((first | apply zB | apply zD | apply zF | apply zH); (· with_reducible assumption)) | apply zM | apply zN | apply zO | apply zP | apply zQ | apply zR | apply zS | apply zT | apply zU | (apply zV; (· omega)) | (apply zW; (· omega)) | (apply zX; (· (first | omega | (dsimp only; omega)))) | (apply zY; (try (apply zY; apply zX; (· omega))); apply zX; (· omega); apply zX; (· (first | omega | (dsimp only; omega)))) | ((first | apply yJ | apply yK | apply yL | apply yM | apply yN | apply yO); (· exact hgA); (· exact hsA)) | (apply yNP; (· exact hgA); (· exact hsA)) | ((first | apply zA | apply zC | apply zE | apply zG); (· omega)) | ((first | apply zB | apply zD | apply zF | apply zH); (· omega)) | ((first | apply zI | apply zK); (· with_reducible assumption)) | ((first | apply zJ | apply zL); (· with_reducible assumption)) | fail)
      conv => whnf
      exact bad_ 1 hE (by omega) _ leA
    | true =>
      obtain ⟨⟨hf1, hf8⟩, hfr, hfd⟩ := layB_t hvf
      obtain ⟨⟨ht1, ht8⟩, htr, htd⟩ := layB_t hvt
      obtain ⟨i0, off0, rfl⟩ := hf.at (k := 0) (by omega)
      obtain ⟨i1, off1, rfl⟩ := ht.at (k := 0) (by omega)
      refine callS_post ?_
      refine callS_walk tt_ok Try.func25 rfl (by kernel_rfl) ?_
      conv => whnf
      repeat' ((conv => whnf); first | refine layR_v (b := true) (hf.kp kpA) hvf ?_ | refine layR_v (b := true) (ht.kp kpA) hvt ?_ | refine nothingF_c (n := m.length) (m := l.length) ⟨by omega, by omega, by omega⟩ (fun H1 o rs hle1 hom => ?_); (have hs1 := hle1.size) | ((first | (apply vB; (case h => with_reducible assumption)) | (apply vA; (case h => with_reducible assumption)) | (apply vC; (case h => with_reducible assumption))); (case hk => exact kpA); (case he => omega)) | ((first | (apply vI; (case h => with_reducible assumption)) | (apply vG; (case h => with_reducible assumption)) | (apply vK; (case h => with_reducible assumption))); (case hk => exact kpA); (case he => omega); (case hp => omega); (case' g => intro hr_ hc_)) | ((first | (apply vJ; (case h => with_reducible assumption)) | (apply vH; (case h => with_reducible assumption)) | (apply vL; (case h => with_reducible assumption))); (case hk => exact kpA); (case he => omega); (case' g => intro hr_ hc_)) | (apply drawS_auto mixed tt_ok; (· kernel_rfl)) | apply zZ | apply yA | apply yB | ((first | apply zA | apply zC | apply zE | apply zG); (· with_reducible assumption)) | ((first | apply zB | apply zD | apply zF | apply zH); (· with_reducible assumption)) | apply zM | apply zN | apply zO | apply zP | apply zQ | apply zR | apply zS | apply zT | apply zU | (apply zV; (· omega)) | (apply zW; (· omega)) | (apply zX; (· (first | omega | (dsimp only; omega)))) | (apply zY; (try (apply zY; apply zX; (· omega))); apply zX; (· omega); apply zX; (· (first | omega | (dsimp only; omega)))) | ((first | apply yJ | apply yK | apply yL | apply yM | apply yN | apply yO); (· exact hgA); (· exact hsA)) | (apply yNP; (· exact hgA); (· exact hsA)) | ((first | apply zA | apply zC | apply zE | apply zG); (· omega)) | ((first | apply zB | apply zD | apply zF | apply zH); (· omega)) | ((first | apply zI | apply zK); (· with_reducible assumption)) | ((first | apply zJ | apply zL); (· with_reducible assumption)) | fail)
      conv => whnf
      refine loopS_mask tt_ok (fun (k : Nat × AHeap) => [.k, .k, .w, .w, .w, .w, .k, .p (iv k.1), .w, .w, .w, .w, .w, .w, .w, .w, .w, .w, .w, .w, .w, .w, .w, .w, .w, .w, .w, .w, .w, .w, .w, .w, .w, .w, .w, .w, .w, .w, .w, .w, .w, .w, .w, .w, .w, .w, .w, .w, .w, .w]) (fun (k : Nat × AHeap) => k.2) (fun (k : Nat × AHeap) => k.1 ≤ m.length ∧ H1.size ≤ k.2.size ∧ (∀ x, x < H1.size → x ∉ rs → k.2.get x = H1.get x) ∧ OMat k.2 H.size o rs (matF (fun a c => if a < k.1 then picF l m a c else 0) m.length l.length) [] ∧ (∀ x ∈ m.take k.1, x ∈ l) ∧ (0 < k.1 → l.length = m.length)) (fun (k : Nat × AHeap) => m.length - k.1) (⟨0, H1⟩) (⟨by omega, Nat.le_refl _, fun _ _ _ => rfl, hom.cast _ (fun a _ c _ => by simp), by simp, fun h => by omega⟩) ?_ (fun k hk => ?_)
      · conv => whnf
        refine weakH_of (HW.refl _) ?_
        repeat' (first | exact WT.nil | refine WT.same ?_ | refine WT.drop ?_ | refine WT.int (by omega) ?_ | refine WT.eq (by assumption) ?_ | refine WT.bl (by first | assumption | (symm; assumption)) ?_ | refine WT.vv (by assumption) ?_)
      obtain ⟨k, HH⟩ := k
      obtain ⟨hk, hsz, hsame, homk, hall, hd0⟩ := hk
      dsimp only at hk hsz hsame homk hall hd0 ⊢
      have hleH : H.le HH := ⟨by omega, fun j hj => (hsame j (by omega) (homk.notin (by omega))).trans (hle1.get j hj)⟩
      have htH := ht.kp hleH.kp
      have hfH := hf.kp hleH.kp
      by_cases hlt : k < m.length
      · by_cases hin : m[k] ∈ l
        · obtain ⟨r, hrl, hrp, hrq⟩ := posI_ex hin
          by_cases hd : l.length = m.length
          · skip
            repeat' ((conv => whnf); first | refine at_v hfH hrp ?_ | refine homk.row hlt ?_ | refine homk.put2 hlt hrl (fun a c => if a < k + 1 then picF l m a c else 0) (fun a ha c _ => ?_) (fun H5 hom5 hkp5 => ?_); exact pic_aux hlt hrp | ((first | (apply vB; (case h => with_reducible assumption)) | (apply vA; (case h => with_reducible assumption)) | (apply vC; (case h => with_reducible assumption))); (case hk => exact kpA); (case he => omega)) | ((first | (apply vI; (case h => with_reducible assumption)) | (apply vG; (case h => with_reducible assumption)) | (apply vK; (case h => with_reducible assumption))); (case hk => exact kpA); (case he => omega); (case hp => omega); (case' g => intro hr_ hc_)) | ((first | (apply vJ; (case h => with_reducible assumption)) | (apply vH; (case h => with_reducible assumption)) | (apply vL; (case h => with_reducible assumption))); (case hk => exact kpA); (case he => omega); (case' g => intro hr_ hc_)) | (apply drawS_auto mixed tt_ok; (· kernel_rfl)) | apply zZ | apply yA | apply yB | ((first | apply zA | apply zC | apply zE | apply zG); (· with_reducible assumption)) | ((first | apply zB | apply zD | apply zF | apply zH); (· with_reducible assumption)) | apply zM | apply zN | apply zO | apply zP | apply zQ | apply zR | apply zS | apply zT | apply zU | (apply zV; (· omega)) | (apply zW; (· omega)) | (apply zX; (· (first | omega | (dsimp only; omega)))) | (apply zY; (try (apply zY; apply zX; (· omega))); apply zX; (· omega); apply zX; (· (first | omega | (dsimp only; omega)))) | ((first | apply yJ | apply yK | apply yL | apply yM | apply yN | apply yO); (· exact hgA); (· exact hsA)) | (apply yNP; (· exact hgA); (· exact hsA)) | ((first | apply zA | apply zC | apply zE | apply zG); (· omega)) | ((first | apply zB | apply zD | apply zF | apply zH); (· omega)) | ((first | apply zI | apply zK); (· with_reducible assumption)) | ((first | apply zJ | apply zL); (· with_reducible assumption)) | fail)
            conv => whnf
            apply Exists.intro (k + 1, H5)
            refine ⟨?inv, ?mu, ?wk⟩
            case wk =>
              conv => whnf
              refine weakH_of (HW.refl _) ?_
              repeat' (first | exact WT.nil | refine WT.same ?_ | refine WT.drop ?_ | refine WT.int (by omega) ?_ | refine WT.eq (by assumption) ?_ | refine WT.bl (by first | assumption | (symm; assumption)) ?_ | refine WT.vv (by assumption) ?_)
            case mu => first | omega | (dsimp only; omega)
            case inv => exact ⟨by omega, by rw [hkp5.size]; exact hsz, fun x h1 h2 => (hkp5.get x h2).trans (hsame x h1 h2), hom5, all_snoc hlt hall hin, fun _ => hd⟩
          · have hE : picE l m = 10 := by rw [picE, if_pos ⟨hvf, hvt⟩, if_neg (fun hh => hd hh.1)]
            repeat' ((conv => whnf); first | refine at_v hfH hrp ?_ | ((first | (apply vB; (case h => with_reducible assumption)) | (apply vA; (case h => with_reducible assumption)) | (apply vC; (case h => with_reducible assumption))); (case hk => exact kpA); (case he => omega)) | ((first | (apply vI; (case h => with_reducible assumption)) | (apply vG; (case h => with_reducible assumption)) | (apply vK; (case h => with_reducible assumption))); (case hk => exact kpA); (case he => omega); (case hp => omega); (case' g => intro hr_ hc_)) | ((first | (apply vJ; (case h => with_reducible assumption)) | (apply vH; (case h => with_reducible assumption)) | (apply vL; (case h => with_reducible assumption))); (case hk => exact kpA); (case he => omega); (case' g => intro hr_ hc_)) | (apply drawS_auto mixed tt_ok; (· kernel_rfl)) | apply zZ | apply yA | apply yB | ((first | apply zA | apply zC | apply zE | apply zG); (· with_reducible assumption)) | ((first | apply zB | apply zD | apply zF | apply zH); (· with_reducible assumption)) | apply zM | apply zN | apply zO | apply zP | apply zQ | apply zR | apply zS | apply zT | apply zU | (apply zV; (· omega)) | (apply zW; (· omega)) | (apply zX; (· (first | omega | (dsimp only; omega)))) | (apply zY; (try (apply zY; apply zX; (· omega))); apply zX; (· omega); apply zX; (· (first | omega | (dsimp only; omega)))) | ((first | apply yJ | apply yK | apply yL | apply yM | apply yN | apply yO); (· exact hgA); (· exact hsA)) | (apply yNP; (· exact hgA); (· exact hsA)) | ((first | apply zA | apply zC | apply zE | apply zG); (· omega)) | ((first | apply zB | apply zD | apply zF | apply zH); (· omega)) | ((first | apply zI | apply zK); (· with_reducible assumption)) | ((first | apply zJ | apply zL); (· with_reducible assumption)) | fail)
            conv => whnf
            exact ⟨_, HW.refl _, bad_ 10 hE (by omega) _ hleH⟩
        · have hE : picE l m = 10 := by
            rw [picE, if_pos ⟨hvf, hvt⟩, if_neg (fun hh => hin (hh.2 _ (List.getElem_mem _)))]
          repeat' ((conv => whnf); first | refine at_v hfH (posI_no hin) ?_ | ((first | (apply vB; (case h => with_reducible assumption)) | (apply vA; (case h => with_reducible assumption)) | (apply vC; (case h => with_reducible assumption))); (case hk => exact kpA); (case he => omega)) | ((first | (apply vI; (case h => with_reducible assumption)) | (apply vG; (case h => with_reducible assumption)) | (apply vK; (case h => with_reducible assumption))); (case hk => exact kpA); (case he => omega); (case hp => omega); (case' g => intro hr_ hc_)) | ((first | (apply vJ; (case h => with_reducible assumption)) | (apply vH; (case h => with_reducible assumption)) | (apply vL; (case h => with_reducible assumption))); (case hk => exact kpA); (case he => omega); (case' g => intro hr_ hc_)) | (apply drawS_auto mixed tt_ok; (· kernel_rfl)) | apply zZ | apply yA | apply yB | ((first | apply zA | apply zC | apply zE | apply zG); (· with_reducible assumption)) | ((first | apply zB | apply zD | apply zF | apply zH); (· with_reducible assumption)) | apply zM | apply zN | apply zO | apply zP | apply zQ | apply zR | apply zS | apply zT | apply zU | (apply zV; (· omega)) | (apply zW; (· omega)) | (apply zX; (· (first | omega | (dsimp only; omega)))) | (apply zY; (try (apply zY; apply zX; (· omega))); apply zX; (· omega); apply zX; (· (first | omega | (dsimp only; omega)))) | ((first | apply yJ | apply yK | apply yL | apply yM | apply yN | apply yO); (· exact hgA); (· exact hsA)) | (apply yNP; (· exact hgA); (· exact hsA)) | ((first | apply zA | apply zC | apply zE | apply zG); (· omega)) | ((first | apply zB | apply zD | apply zF | apply zH); (· omega)) | ((first | apply zI | apply zK); (· with_reducible assumption)) | ((first | apply zJ | apply zL); (· with_reducible assumption)) | fail)
          conv => whnf
          exact ⟨_, HW.refl _, bad_ 10 hE (by omega) _ hleH⟩
      · have hkn : k = m.length := by omega
        subst hkn
        rw [List.take_length] at hall
        have hE : picE l m = 0 := by rw [picE, if_pos ⟨hvf, hvt⟩, if_pos ⟨hd0 (by omega), hall⟩]
        have hM : picM l m = matF (picF l m) m.length l.length := by rw [picM, if_pos hE]
        rw [hE, hM, matF_len] at h
        have hom6 := homk.cast (picF l m) (fun a ha c _ => by simp [ha])
        repeat' ((conv => whnf); first | ((first | (apply vB; (case h => with_reducible assumption)) | (apply vA; (case h => with_reducible assumption)) | (apply vC; (case h => with_reducible assumption))); (case hk => exact kpA); (case he => omega)) | ((first | (apply vI; (case h => with_reducible assumption)) | (apply vG; (case h => with_reducible assumption)) | (apply vK; (case h => with_reducible assumption))); (case hk => exact kpA); (case he => omega); (case hp => omega); (case' g => intro hr_ hc_)) | ((first | (apply vJ; (case h => with_reducible assumption)) | (apply vH; (case h => with_reducible assumption)) | (apply vL; (case h => with_reducible assumption))); (case hk => exact kpA); (case he => omega); (case' g => intro hr_ hc_)) | (apply drawS_auto mixed tt_ok; (· kernel_rfl)) | apply zZ | apply yA | apply yB | ((first | apply zA | apply zC | apply zE | apply zG); (· with_reducible assumption)) | ((first | apply zB | apply zD | apply zF | apply zH); (· with_reducible assumption)) | apply zM | apply zN | apply zO | apply zP | apply zQ | apply zR | apply zS | apply zT | apply zU | (apply zV; (· omega)) | (apply zW; (· omega)) | (apply zX; (· (first | omega | (dsimp only; omega)))) | (apply zY; (try (apply zY; apply zX; (· omega))); apply zX; (· omega); apply zX; (· (first | omega | (dsimp only; omega)))) | ((first | apply yJ | apply yK | apply yL | apply yM | apply yN | apply yO); (· exact hgA); (· exact hsA)) | (apply yNP; (· exact hgA); (· exact hsA)) | ((first | apply zA | apply zC | apply zE | apply zG); (· omega)) | ((first | apply zB | apply zD | apply zF | apply zH); (· omega)) | ((first | apply zI | apply zK); (· with_reducible assumption)) | ((first | apply zJ | apply zL); (· with_reducible assumption)) | fail)
        conv => whnf
        exact ⟨_, HW.fz _ H.size, h _ _ _ (AHeap.le.fz hleH (Nat.le_refl _)) (hom6.fzF (by omega) (by unfold maxN; omega) (by unfold maxN; omega) (fun i _ c _ => by unfold picF inR; split <;> omega))⟩
/-! what is picked -/
theorem sub_of : ∀ {l m : List Int}, l.Nodup → (∀ x ∈ l, x ∈ m) → m.length ≤ l.length → ∀ x ∈ m, x ∈ l
  | [], m, _, _, h, x, hx => by
    have : m = [] := List.eq_nil_of_length_eq_zero (by simpa using h)
    subst this
    exact absurd hx (by simp)
  | a :: l, m, hn, hs, h, x, hx => by
    obtain ⟨h1, h2⟩ := List.nodup_cons.1 hn
    have ha : a ∈ m := hs a (by simp)
    by_cases e : x = a
    · simp [e]
    · have := sub_of (l := l) (m := m.erase a) h2 (fun y hy => (List.mem_erase_of_ne (fun (e : y = a) => h1 (e ▸ hy))).2 (hs y (by simp [hy]))) (by rw [List.length_erase_of_mem ha]; simp at h; omega) x ((List.mem_erase_of_ne e).2 hx)
      simp [this]
theorem picE_0 {l m : List Int} (h : picE l m = 0) : layB l = true ∧ layB m = true ∧ l.length = m.length ∧ ∀ p ∈ m, p ∈ l := by
  unfold picE at h
  by_cases h1 : layB l = true ∧ layB m = true
  · rw [if_pos h1] at h
    by_cases h2 : l.length = m.length ∧ ∀ p ∈ m, p ∈ l
    · exact ⟨h1.1, h1.2, h2⟩
    · rw [if_neg h2] at h; omega
  · rw [if_neg h1] at h; omega
theorem picF_iff {l m : List Int} (hn : l.Nodup) (hs : ∀ p ∈ m, p ∈ l) {a c : Nat} (ha : a < m.length) (hc : c < l.length) : posI l (m.getD a 0) = c ↔ l[c] = m[a] := by
  rw [show m.getD a 0 = m[a] by simp [List.getD, ha]]
  obtain ⟨r, hr, h1, h2⟩ := posI_ex (hs m[a] (List.getElem_mem _))
  rw [h1]
  constructor
  · intro e
    have e : r = c := by omega
    subst e
    exact h2
  · intro e
    have : r = c := (List.getElem_inj hn).1 (h2.trans e.symm)
    omega
theorem between_pick {l m : List Int} {lfe : Bool} (h : picE l m = 0) : betM l m lfe = picM l m := by
  obtain ⟨h1, h2, h3, h4⟩ := picE_0 h
  obtain ⟨_, _, hfd⟩ := layB_t h1
  obtain ⟨_, _, htd⟩ := layB_t h2
  have hE : betE l m = 0 := by rw [betE, if_pos ⟨h1, h2⟩]
  rw [betM, if_pos hE, picM, if_pos h]
  refine matF_congr fun a ha c hc => ?_
  have hin : l[c] ∈ m := sub_of htd h4 (by omega) _ (List.getElem_mem _)
  unfold betF picF
  rw [show l.getD c 0 = l[c] by simp [List.getD, hc], pick_in hin]
  have e1 : (m.getD a 0 ∈ [l[c]]) ↔ posI l (m.getD a 0) = c := by
    rw [picF_iff hfd h4 ha hc, show m.getD a 0 = m[a] by simp [List.getD, ha], List.mem_singleton]
    exact ⟨fun e => e.symm, fun e => e.symm⟩
  by_cases h5 : posI l (m.getD a 0) = c
  · rw [if_pos h5]; exact if_pos (e1.2 h5)
  · rw [if_neg h5]; exact if_neg (fun h => h5 (e1.1 h))
theorem pic_frames {l m : List Int} (h : picE l m = 0) : (picM l m).length = m.length ∧ framesB (picM l m) = l.length ∧ matB (picM l m) = true := by
  obtain ⟨h1, h2, h3, h4⟩ := picE_0 h
  obtain ⟨⟨hf1, hf8⟩, _⟩ := layB_t h1
  obtain ⟨⟨ht1, ht8⟩, _⟩ := layB_t h2
  have hM : picM l m = matF (picF l m) m.length l.length := by rw [picM, if_pos h]
  have hl : (picM l m).length = m.length := by rw [hM, matF_len]
  have hfr : framesB (picM l m) = l.length := by
    have h0 : 0 < (picM l m).length := by omega
    rw [frames0 h0]
    simp only [hM, matF_get, rowF_len]
  refine ⟨hl, hfr, ?_⟩
  unfold matB
  rw [hfr, hl, decide_eq_true ⟨ht1, ht8⟩, decide_eq_true ⟨hf1, hf8⟩, Bool.true_and, Bool.true_and]
  refine List.all_eq_true.2 fun r hr => ?_
  rw [hM] at hr
  obtain ⟨i, hi, rfl⟩ := mem_matF hr
  rw [rowF_len, decide_eq_true rfl, Bool.true_and]
  refine List.all_eq_true.2 fun x hx => ?_
  obtain ⟨c, hc, rfl⟩ := mem_rowF hx
  refine wOk_t.2 ?_
  unfold picF
  split <;> omega
theorem pic_plain {l m : List Int} (h : picE l m = 0) : Plain (picM l m) := by
  obtain ⟨h1, h2, h3, h4⟩ := picE_0 h
  obtain ⟨_, _, hfd⟩ := layB_t h1
  obtain ⟨_, _, htd⟩ := layB_t h2
  have hM : picM l m = matF (picF l m) m.length l.length := by rw [picM, if_pos h]
  have val : ∀ {a c : Nat}, at2 (picM l m) a c ≠ 0 → ∃ (ha : a < m.length) (hc : c < l.length), at2 (picM l m) a c = 65536 ∧ l[c] = m[a] := by
    intro a c hne
    obtain ⟨hi, hc⟩ := at2_lt' hne
    have ha : a < m.length := by rw [hM, matF_len] at hi; exact hi
    have hc' : c < l.length := by
      have : (picM l m)[a].length = l.length := by simp only [hM, matF_get, rowF_len]
      omega
    have e : at2 (picM l m) a c = picF l m a c := by rw [hM]; exact at2_matF ha hc'
    rw [e] at hne ⊢
    unfold picF at hne ⊢
    by_cases h5 : posI l (m.getD a 0) = c
    · rw [if_pos h5]
      exact ⟨ha, hc', rfl, (picF_iff hfd h4 ha hc').1 h5⟩
    · rw [if_neg h5] at hne
      exact absurd rfl hne
  intro i k hne
  obtain ⟨ha, hc, e1, e2⟩ := val hne
  refine ⟨fun n hn => ?_, fun n hn => ?_, e1⟩
  · by_cases h0 : at2 (picM l m) i n = 0
    · exact h0
    · obtain ⟨ha', hc', _, e3⟩ := val h0
      exact absurd ((List.getElem_inj hfd).1 (e3.trans e2.symm)) hn
  · by_cases h0 : at2 (picM l m) n k = 0
    · exact h0
    · obtain ⟨ha', hc', _, e3⟩ := val h0
      exact absurd ((List.getElem_inj htd).1 (e3.symm.trans e2)) hn
end Go.Abs
