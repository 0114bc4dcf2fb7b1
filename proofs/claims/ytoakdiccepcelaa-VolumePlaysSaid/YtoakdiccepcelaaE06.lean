/- Contracts of Set and Mute: the program's and the reference's. No conditions beyond those stated. -/
import Derived.Test.YtoakdiccepcelaaB06
set_option linter.all false
set_option maxHeartbeats 1000000
set_option maxRecDepth 20000
namespace Go.Abs
open Go Go.Proofs

def setE (gs : List Int) (f : Int) (cs : List Chan) : Int := if gs.any bad = false ∧ 0 ≤ f ∧ f ≤ 1000000000 then if gs.length = cs.length then 0 else 11 else 7
def setL (gs : List Int) (f : Int) (cs : List Chan) : List Chan := if setE gs f cs = 0 then cs.mapIdx (gainF gs f) else cs
def mutE (ms : List Bool) (f : Int) (cs : List Chan) : Int := if 0 ≤ f ∧ f ≤ 1000000000 then if ms.length = cs.length then 0 else 11 else 7
def mutL (ms : List Bool) (f : Int) (cs : List Chan) : List Chan := if mutE ms f cs = 0 then cs.mapIdx (muteF ms f) else cs
theorem setL_len (gs : List Int) (f : Int) (cs : List Chan) : (setL gs f cs).length = cs.length := by unfold setL; split <;> simp
theorem mutL_len (ms : List Bool) (f : Int) (cs : List Chan) : (mutL ms f cs).length = cs.length := by unfold mutL; split <;> simp
theorem setE_0 {gs : List Int} {f : Int} {cs : List Chan} (h : setE gs f cs = 0) : gs.any bad = false ∧ (0 ≤ f ∧ f ≤ 1000000000) ∧ gs.length = cs.length := by
  unfold setE at h
  by_cases h1 : gs.any bad = false ∧ 0 ≤ f ∧ f ≤ 1000000000
  · rw [if_pos h1] at h
    by_cases h2 : gs.length = cs.length
    · exact ⟨h1.1, h1.2, h2⟩
    · rw [if_neg h2] at h; omega
  · rw [if_neg h1] at h; omega
theorem mutE_0 {ms : List Bool} {f : Int} {cs : List Chan} (h : mutE ms f cs = 0) : (0 ≤ f ∧ f ≤ 1000000000) ∧ ms.length = cs.length := by
  unfold mutE at h
  by_cases h1 : 0 ≤ f ∧ f ≤ 1000000000
  · rw [if_pos h1] at h
    by_cases h2 : ms.length = cs.length
    · exact ⟨h1, h2⟩
    · rw [if_neg h2] at h; omega
  · rw [if_neg h1] at h; omega
theorem setL_ok {gs : List Int} {f : Int} {cs : List Chan} (h : okL cs) : okL (setL gs f cs) := by
  unfold setL
  split
  · rename_i he
    obtain ⟨h1, h2, h3⟩ := setE_0 he
    intro c hc
    obtain ⟨k, hk, rfl⟩ := List.getElem_of_mem hc
    rw [List.getElem_mapIdx]
    have hk' : k < gs.length := by simp at hk; omega
    have hg : isGain (gs.getD k 0) := by
      rw [show gs.getD k 0 = gs[k] by simp [List.getD, hk']]
      exact bad_not h1 (List.getElem_mem _)
    obtain ⟨a1, a2, a3, a4, a5⟩ := h (cs[k]'(by simpa using hk)) (List.getElem_mem _)
    exact turn_ok ⟨a1, a2, hg, a4, a5⟩ h2
  · exact h
theorem mutL_ok {ms : List Bool} {f : Int} {cs : List Chan} (h : okL cs) : okL (mutL ms f cs) := by
  unfold mutL
  split
  · rename_i he
    obtain ⟨h2, h3⟩ := mutE_0 he
    intro c hc
    obtain ⟨k, hk, rfl⟩ := List.getElem_of_mem hc
    rw [List.getElem_mapIdx]
    obtain ⟨a1, a2, a3, a4, a5⟩ := h (cs[k]'(by simpa using hk)) (List.getElem_mem _)
    exact turn_ok ⟨a1, a2, a3, a4, a5⟩ h2
  · exact h
theorem setL_eq {gs : List Int} {f : Int} {cs ds : List Chan} (h : eqL cs ds) : setE gs f cs = setE gs f ds ∧ eqL (setL gs f cs) (setL gs f ds) := by
  have e : setE gs f cs = setE gs f ds := by unfold setE; rw [h.1]
  refine ⟨e, ?_⟩
  unfold setL
  rw [e]
  split
  · exact eq_map h (fun j a b hab => eq_turn f (eq_gain _ hab))
  · exact h
theorem mutL_eq {ms : List Bool} {f : Int} {cs ds : List Chan} (h : eqL cs ds) : mutE ms f cs = mutE ms f ds ∧ eqL (mutL ms f cs) (mutL ms f ds) := by
  have e : mutE ms f cs = mutE ms f ds := by unfold mutE; rw [h.1]
  refine ⟨e, ?_⟩
  unfold mutL
  rw [e]
  split
  · exact eq_map h (fun j a b hab => eq_turn f (eq_mute _ hab))
  · exact h
theorem set_aux {cs : List Chan} {F : Nat → Chan → Chan} {k : Nat} (hk : k < cs.length) {c1 : Chan} {f : Int} (h1 : k < ((updN F k cs).set k c1).length) (e : turnC f c1 = F k cs[k]) : ((updN F k cs).set k c1).set k (turnC f (((updN F k cs).set k c1)[k])) = updN F (k + 1) cs := by
  rw [List.set_set, List.getElem_set_self]
  exact updN_set hk e
theorem containsB_v {a : Option Addr} {c : Nat} {xs : List Int} {b : Bool} {H : AHeap} {K : CK} (hx : Row H a xs) (hb : xs.any bad = b) (h : K (.returned (.bool b)) H) : callS P (fnV 56) [.slice a xs.length c, fnV 47] H K :=
  containsRow_c (p := bad) hx (fun x _ K hK => odd_v rfl hK) (by rw [hb]; exact h)
theorem set_c {vb ob c : Nat} {a : Option Addr} {gs : List Int} {f : Int} {cs : List Chan} {H : AHeap} {K : CK} (hV : VolP H vb ob cs) (hok : okL cs) (hn : cs.length ≤ 8) (hr : Row H a gs) (hf : inR f)
    (h : ∀ H', VolK H H' ob → H'.get ob = some (.cells (flatB chC (setL gs f cs)) true 6) → K (.returned (iv (setE gs f cs))) H') : callS P (fnV 34) [.pointer (some ⟨vb, 0, none⟩), .slice a gs.length c, iv f] H K := by
  obtain ⟨hvl, hol, hne, hv, ho⟩ := hV
  have hgl := hr.len
  have hf1 := hf.1
  have hf2 := hf.2
  have bad_ : ∀ e, setE gs f cs = e → e ≠ 0 → ∀ H', H.le H' → K (.returned (iv e)) H' := fun e he hne H' hle => by
    have hL : setL gs f cs = cs := by unfold setL; rw [he, if_neg hne]
    have := h H' (VolK.of hle) (by rw [hL]; exact (hle.get _ hol).trans ho)
    rw [he] at this; exact this
  cases hb : gs.any bad with
  | true =>
    have hE : setE gs f cs = 7 := by unfold setE; rw [if_neg (fun hh => by rw [hb] at hh; cases hh.1)]
    refine callS_walk tt_ok Try.func34 rfl (by kernel_rfl) ?_
    conv => whnf
    repeat' ((conv => whnf); first | (apply must_ok; (· (first | rfl | assumption | exact decide_eq_true (by omega)))) | refine containsB_v (hr.kp kpA) hb ?_ | (apply must_no; (· (first | rfl | assumption | exact decide_eq_false (by omega)))) | (apply caught_panic; (· exact hoA); (· exact hgA); intro H2 hle2 hg2) | ((first | (apply vB; (case h => with_reducible assumption)) | (apply vA; (case h => with_reducible assumption)) | (apply vC; (case h => with_reducible assumption))); (case hk => exact kpA); (case he => omega)) | ((first | (apply vI; (case h => with_reducible assumption)) | (apply vG; (case h => with_reducible assumption)) | (apply vK; (case h => with_reducible assumption))); (case hk => exact kpA); (case he => omega); (case hp => omega); (case' g => intro hr_ hc_)) | ((first | (apply vJ; (case h => with_reducible assumption)) | (apply vH; (case h => with_reducible assumption)) | (apply vL; (case h => with_reducible assumption))); (case hk => exact kpA); (case he => omega); (case' g => intro hr_ hc_)) | (apply drawS_auto mixed tt_ok; (· kernel_rfl)) | apply zZ | apply yA | apply yB | ((first | apply zA | apply zC | apply zE | apply zG); (· with_reducible assumption)) | ((first | apply zB | apply zD | apply zF | apply zH); (· with_reducible assumption)) | apply zM | apply zN | apply zO | apply zP | apply zQ | apply zR | apply zS | apply zT | apply zU | (apply zV; (· omega)) | (apply zW; (· omega)) | (apply zX; (· (first | omega | (dsimp only; omega)))) | (apply zY; (try (apply zY; apply zX; (· omega))); apply zX; (· omega); apply zX; (· (first | omega | (dsimp only; omega)))) | ((first | apply yJ | apply yK | apply yL | apply yM | apply yN | apply yO); (· exact hgA); (· exact hsA)) | (apply yNP; (· exact hgA); (· exact hsA)) | ((first | apply zA | apply zC | apply zE | apply zG); (· omega)) | ((first | apply zB | apply zD | apply zF | apply zH); (· omega)) | ((first | apply zI | apply zK); (· with_reducible assumption)) | ((first | apply zJ | apply zL); (· with_reducible assumption)) | fail)
    conv => whnf
    exact bad_ 7 hE (by omega) _ (AHeap.le.trans leA hle2)
  | false =>
    by_cases hf0 : 0 ≤ f ∧ f ≤ 1000000000
    · skip
      by_cases hd : gs.length = cs.length
      · have hE : setE gs f cs = 0 := by unfold setE; rw [if_pos ⟨hb, hf0⟩, if_pos hd]
        have hL : setL gs f cs = cs.mapIdx (gainF gs f) := by unfold setL; rw [if_pos hE]
        rw [hE, hL] at h
        refine callS_walk tt_ok Try.func34 rfl (by kernel_rfl) ?_
        conv => whnf
        repeat' ((conv => whnf); first | (apply must_ok; (· (first | rfl | assumption | exact decide_eq_true (by omega)))) | refine containsB_v (hr.kp kpA) hb ?_ | (apply within_t; (· omega)) | ((first | (apply vB; (case h => with_reducible assumption)) | (apply vA; (case h => with_reducible assumption)) | (apply vC; (case h => with_reducible assumption))); (case hk => exact kpA); (case he => omega)) | ((first | (apply vI; (case h => with_reducible assumption)) | (apply vG; (case h => with_reducible assumption)) | (apply vK; (case h => with_reducible assumption))); (case hk => exact kpA); (case he => omega); (case hp => omega); (case' g => intro hr_ hc_)) | ((first | (apply vJ; (case h => with_reducible assumption)) | (apply vH; (case h => with_reducible assumption)) | (apply vL; (case h => with_reducible assumption))); (case hk => exact kpA); (case he => omega); (case' g => intro hr_ hc_)) | (apply drawS_auto mixed tt_ok; (· kernel_rfl)) | apply zZ | apply yA | apply yB | ((first | apply zA | apply zC | apply zE | apply zG); (· with_reducible assumption)) | ((first | apply zB | apply zD | apply zF | apply zH); (· with_reducible assumption)) | apply zM | apply zN | apply zO | apply zP | apply zQ | apply zR | apply zS | apply zT | apply zU | (apply zV; (· omega)) | (apply zW; (· omega)) | (apply zX; (· (first | omega | (dsimp only; omega)))) | (apply zY; (try (apply zY; apply zX; (· omega))); apply zX; (· omega); apply zX; (· (first | omega | (dsimp only; omega)))) | ((first | apply yJ | apply yK | apply yL | apply yM | apply yN | apply yO); (· exact hgA); (· exact hsA)) | (apply yNP; (· exact hgA); (· exact hsA)) | ((first | apply zA | apply zC | apply zE | apply zG); (· omega)) | ((first | apply zB | apply zD | apply zF | apply zH); (· omega)) | ((first | apply zI | apply zK); (· with_reducible assumption)) | ((first | apply zJ | apply zL); (· with_reducible assumption)) | fail)
        conv => whnf
        apply loopS_mask tt_ok (fun (k : Nat × AHeap) => [.k, .k, .k, .w, .w, .w, .k, .w, .w, .w, .w, .w, .w, .w, .w, .w, .w, .w, .w, .w, .w, .w, .w, .w, .w, .w, .w, .w, .w, .w, .w, .w, .k, .p (iv k.1), .w, .w, .w, .w, .w, .w, .w, .w, .w, .w, .w, .w, .w, .w, .w, .w, .w, .w, .w, .w, .w, .w]) (fun (k : Nat × AHeap) => k.2) (fun (k : Nat × AHeap) => k.1 ≤ cs.length ∧ H.size < k.2.size ∧ (∀ j, j < H.size → j ≠ ob → k.2.get j = H.get j) ∧ k.2.get H.size = some (.cells [iv 0] true 0) ∧ k.2.get ob = some (.cells (flatB chC (updN (gainF gs f) k.1 cs)) true 6)) (fun (k : Nat × AHeap) => cs.length - k.1) (⟨0, _⟩)
        case hst =>
          conv => whnf
          refine weakH_of (HW.refl _) ?_
          repeat' (first | exact WT.nil | refine WT.same ?_ | refine WT.drop ?_ | refine WT.int (by omega) ?_ | refine WT.eq (by assumption) ?_ | refine WT.bl (by first | assumption | (symm; assumption)) ?_ | refine WT.vv (by assumption) ?_)
        case h0 => exact ⟨by omega, hoA, fun j h1 _ => hgA, hgA, by rw [updN_zero]; (repeat (first | with_reducible assumption | ((first | apply yP | apply yQ); (first | omega | (simp; done) | (simp; omega))) | ((first | refine (yR _ _ ?_).trans ?_ | refine (yS _ _ ?_).trans ?_ | refine (yT _ ?_).trans ?_ | refine (yU (by with_reducible assumption) _ ?_).trans ?_); (· (first | omega | (simp; done) | (simp; omega)))) | exact rfl | assumption))⟩
        intro k hk
        obtain ⟨k, H1⟩ := k
        obtain ⟨hk, hs, hsame, ge, go⟩ := hk
        dsimp only at hk hs hsame ge go ⊢
        have gv := (hsame vb hvl hne).trans hv
        have hkp : Kp H H1 := ⟨by omega, fun i c sz hi g => by
          by_cases e : i = ob
          · subst e
            rw [ho] at g
            cases g
          · exact (hsame i hi e).trans g⟩
        by_cases hlt : k < cs.length
        · have hlg : k < gs.length := by omega
          obtain ⟨i0, off, rfl⟩ := hr.at hlg
          have hlu : k < (updN (gainF gs f) k cs).length := by rw [updN_len]; exact hlt
          have hcu := updN_get (F := gainF gs f) hlt hlu
          obtain ⟨a1, a2, a3, a4, a5⟩ := hok cs[k] (List.getElem_mem _)
          have hokc : okC { cs[k] with gain := gs[k] } := ⟨a1, a2, bad_not hb (List.getElem_mem _), a4, a5⟩
          have e1 : (chC (updN (gainF gs f) k cs)[k]).set 4 (iv gs[k]) = chC { cs[k] with gain := gs[k] } := by rw [hcu]; rfl
          have hl2 : k < ((updN (gainF gs f) k cs).set k { cs[k] with gain := gs[k] }).length := by rw [List.length_set]; exact hlu
          have hc2 : okC (((updN (gainF gs f) k cs).set k { cs[k] with gain := gs[k] })[k]) := by rw [List.getElem_set_self]; exact hokc
          repeat' ((conv => whnf); first | (refine st1 go six_C hlu 4 { cs[k] with gain := gs[k] } ?_ ?_ e1 ?_; (· exact hoA); (· omega)) | (refine turn_c (cs := (updN (gainF gs f) k cs).set k { cs[k] with gain := gs[k] }) (k := k) (AHeap.set_same _ _ _) hl2 ?_ ?_ hc2 (fun H2 hs2 hsame2 g2 => ?_); (· exact hoA); (· exact hoA)) | ((first | (apply vB; (case h => with_reducible assumption)) | (apply vA; (case h => with_reducible assumption)) | (apply vC; (case h => with_reducible assumption))); (case hk => exact kpA); (case he => omega)) | ((first | (apply vI; (case h => with_reducible assumption)) | (apply vG; (case h => with_reducible assumption)) | (apply vK; (case h => with_reducible assumption))); (case hk => exact kpA); (case he => omega); (case hp => omega); (case' g => intro hr_ hc_)) | ((first | (apply vJ; (case h => with_reducible assumption)) | (apply vH; (case h => with_reducible assumption)) | (apply vL; (case h => with_reducible assumption))); (case hk => exact kpA); (case he => omega); (case' g => intro hr_ hc_)) | (apply drawS_auto mixed tt_ok; (· kernel_rfl)) | apply zZ | apply yA | apply yB | ((first | apply zA | apply zC | apply zE | apply zG); (· with_reducible assumption)) | ((first | apply zB | apply zD | apply zF | apply zH); (· with_reducible assumption)) | apply zM | apply zN | apply zO | apply zP | apply zQ | apply zR | apply zS | apply zT | apply zU | (apply zV; (· omega)) | (apply zW; (· omega)) | (apply zX; (· (first | omega | (dsimp only; omega)))) | (apply zY; (try (apply zY; apply zX; (· omega))); apply zX; (· omega); apply zX; (· (first | omega | (dsimp only; omega)))) | ((first | apply yJ | apply yK | apply yL | apply yM | apply yN | apply yO); (· exact hgA); (· exact hsA)) | (apply yNP; (· exact hgA); (· exact hsA)) | ((first | apply zA | apply zC | apply zE | apply zG); (· omega)) | ((first | apply zB | apply zD | apply zF | apply zH); (· omega)) | ((first | apply zI | apply zK); (· with_reducible assumption)) | ((first | apply zJ | apply zL); (· with_reducible assumption)) | fail)
          conv => whnf
          rw [set_aux hlt hl2 (by unfold gainF; rw [show gs.getD k 0 = gs[k] by simp [List.getD, hlg]])] at g2
          have hs3 : H2.size = H1.size := hs2
          apply Exists.intro (k + 1, H2)
          refine ⟨?inv, ?mu, ?wk⟩
          case wk =>
            conv => whnf
            refine weakH_of (HW.refl _) ?_
            repeat' (first | exact WT.nil | refine WT.same ?_ | refine WT.drop ?_ | refine WT.int (by omega) ?_ | refine WT.eq (by assumption) ?_ | refine WT.bl (by first | assumption | (symm; assumption)) ?_ | refine WT.vv (by assumption) ?_)
          case mu => first | omega | (dsimp only; omega)
          case inv => exact ⟨by omega, by dsimp only; omega, fun j h1 h2 => (hsame2 j h2).trans ((AHeap.set_ne _ _ h2).trans (hsame j h1 h2)), (hsame2 H.size (by omega)).trans ((AHeap.set_ne _ _ (by omega)).trans ge), g2⟩
        · have hkn : k = cs.length := by omega
          subst hkn
          rw [updN_all] at go
          repeat' ((conv => whnf); first | (apply caught_ret; (· exact hoA); (· exact hgA); intro H2 hle2 hg2) | ((first | (apply vB; (case h => with_reducible assumption)) | (apply vA; (case h => with_reducible assumption)) | (apply vC; (case h => with_reducible assumption))); (case hk => exact kpA); (case he => omega)) | ((first | (apply vI; (case h => with_reducible assumption)) | (apply vG; (case h => with_reducible assumption)) | (apply vK; (case h => with_reducible assumption))); (case hk => exact kpA); (case he => omega); (case hp => omega); (case' g => intro hr_ hc_)) | ((first | (apply vJ; (case h => with_reducible assumption)) | (apply vH; (case h => with_reducible assumption)) | (apply vL; (case h => with_reducible assumption))); (case hk => exact kpA); (case he => omega); (case' g => intro hr_ hc_)) | (apply drawS_auto mixed tt_ok; (· kernel_rfl)) | apply zZ | apply yA | apply yB | ((first | apply zA | apply zC | apply zE | apply zG); (· with_reducible assumption)) | ((first | apply zB | apply zD | apply zF | apply zH); (· with_reducible assumption)) | apply zM | apply zN | apply zO | apply zP | apply zQ | apply zR | apply zS | apply zT | apply zU | (apply zV; (· omega)) | (apply zW; (· omega)) | (apply zX; (· (first | omega | (dsimp only; omega)))) | (apply zY; (try (apply zY; apply zX; (· omega))); apply zX; (· omega); apply zX; (· (first | omega | (dsimp only; omega)))) | ((first | apply yJ | apply yK | apply yL | apply yM | apply yN | apply yO); (· exact hgA); (· exact hsA)) | (apply yNP; (· exact hgA); (· exact hsA)) | ((first | apply zA | apply zC | apply zE | apply zG); (· omega)) | ((first | apply zB | apply zD | apply zF | apply zH); (· omega)) | ((first | apply zI | apply zK); (· with_reducible assumption)) | ((first | apply zJ | apply zL); (· with_reducible assumption)) | fail)
          conv => whnf
          refine h _ ⟨?_, fun j h1 h2 => ?_⟩ ?_
          · have := hle2.size
            simp at this
            omega
          · refine (hle2.get j (by simp; omega)).trans ?_
            exact (AHeap.set_ne _ _ (by omega)).trans (hsame j h1 h2)
          · refine (hle2.get ob (by simp; omega)).trans ?_
            exact (AHeap.set_ne _ _ (by omega)).trans go
      · have hE : setE gs f cs = 11 := by unfold setE; rw [if_pos ⟨hb, hf0⟩, if_neg hd]
        refine callS_walk tt_ok Try.func34 rfl (by kernel_rfl) ?_
        conv => whnf
        repeat' ((conv => whnf); first | (apply must_ok; (· (first | rfl | assumption | exact decide_eq_true (by omega)))) | refine containsB_v (hr.kp kpA) hb ?_ | (apply within_t; (· omega)) | (apply must_no; (· (first | rfl | assumption | exact decide_eq_false (by omega)))) | (apply caught_panic; (· exact hoA); (· exact hgA); intro H2 hle2 hg2) | ((first | (apply vB; (case h => with_reducible assumption)) | (apply vA; (case h => with_reducible assumption)) | (apply vC; (case h => with_reducible assumption))); (case hk => exact kpA); (case he => omega)) | ((first | (apply vI; (case h => with_reducible assumption)) | (apply vG; (case h => with_reducible assumption)) | (apply vK; (case h => with_reducible assumption))); (case hk => exact kpA); (case he => omega); (case hp => omega); (case' g => intro hr_ hc_)) | ((first | (apply vJ; (case h => with_reducible assumption)) | (apply vH; (case h => with_reducible assumption)) | (apply vL; (case h => with_reducible assumption))); (case hk => exact kpA); (case he => omega); (case' g => intro hr_ hc_)) | (apply drawS_auto mixed tt_ok; (· kernel_rfl)) | apply zZ | apply yA | apply yB | ((first | apply zA | apply zC | apply zE | apply zG); (· with_reducible assumption)) | ((first | apply zB | apply zD | apply zF | apply zH); (· with_reducible assumption)) | apply zM | apply zN | apply zO | apply zP | apply zQ | apply zR | apply zS | apply zT | apply zU | (apply zV; (· omega)) | (apply zW; (· omega)) | (apply zX; (· (first | omega | (dsimp only; omega)))) | (apply zY; (try (apply zY; apply zX; (· omega))); apply zX; (· omega); apply zX; (· (first | omega | (dsimp only; omega)))) | ((first | apply yJ | apply yK | apply yL | apply yM | apply yN | apply yO); (· exact hgA); (· exact hsA)) | (apply yNP; (· exact hgA); (· exact hsA)) | ((first | apply zA | apply zC | apply zE | apply zG); (· omega)) | ((first | apply zB | apply zD | apply zF | apply zH); (· omega)) | ((first | apply zI | apply zK); (· with_reducible assumption)) | ((first | apply zJ | apply zL); (· with_reducible assumption)) | fail)
        conv => whnf
        exact bad_ 11 hE (by omega) _ (AHeap.le.trans leA hle2)
    · have hE : setE gs f cs = 7 := by unfold setE; rw [if_neg (fun hh => hf0 hh.2)]
      refine callS_walk tt_ok Try.func34 rfl (by kernel_rfl) ?_
      conv => whnf
      repeat' ((conv => whnf); first | (apply must_ok; (· (first | rfl | assumption | exact decide_eq_true (by omega)))) | refine containsB_v (hr.kp kpA) hb ?_ | (apply within_f; (· omega)) | (apply must_no; (· (first | rfl | assumption | exact decide_eq_false (by omega)))) | (apply caught_panic; (· exact hoA); (· exact hgA); intro H2 hle2 hg2) | ((first | (apply vB; (case h => with_reducible assumption)) | (apply vA; (case h => with_reducible assumption)) | (apply vC; (case h => with_reducible assumption))); (case hk => exact kpA); (case he => omega)) | ((first | (apply vI; (case h => with_reducible assumption)) | (apply vG; (case h => with_reducible assumption)) | (apply vK; (case h => with_reducible assumption))); (case hk => exact kpA); (case he => omega); (case hp => omega); (case' g => intro hr_ hc_)) | ((first | (apply vJ; (case h => with_reducible assumption)) | (apply vH; (case h => with_reducible assumption)) | (apply vL; (case h => with_reducible assumption))); (case hk => exact kpA); (case he => omega); (case' g => intro hr_ hc_)) | (apply drawS_auto mixed tt_ok; (· kernel_rfl)) | apply zZ | apply yA | apply yB | ((first | apply zA | apply zC | apply zE | apply zG); (· with_reducible assumption)) | ((first | apply zB | apply zD | apply zF | apply zH); (· with_reducible assumption)) | apply zM | apply zN | apply zO | apply zP | apply zQ | apply zR | apply zS | apply zT | apply zU | (apply zV; (· omega)) | (apply zW; (· omega)) | (apply zX; (· (first | omega | (dsimp only; omega)))) | (apply zY; (try (apply zY; apply zX; (· omega))); apply zX; (· omega); apply zX; (· (first | omega | (dsimp only; omega)))) | ((first | apply yJ | apply yK | apply yL | apply yM | apply yN | apply yO); (· exact hgA); (· exact hsA)) | (apply yNP; (· exact hgA); (· exact hsA)) | ((first | apply zA | apply zC | apply zE | apply zG); (· omega)) | ((first | apply zB | apply zD | apply zF | apply zH); (· omega)) | ((first | apply zI | apply zK); (· with_reducible assumption)) | ((first | apply zJ | apply zL); (· with_reducible assumption)) | fail)
      conv => whnf
      exact bad_ 7 hE (by omega) _ (AHeap.le.trans leA hle2)
theorem mute_c {vb ob c : Nat} {a : Option Addr} {gs : List Bool} {f : Int} {cs : List Chan} {H : AHeap} {K : CK} (hV : VolP H vb ob cs) (hok : okL cs) (hn : cs.length ≤ 8) (hr : Sl RBool 1 H a gs) (hf : inR f)
    (h : ∀ H', VolK H H' ob → H'.get ob = some (.cells (flatB chC (mutL gs f cs)) true 6) → K (.returned (iv (mutE gs f cs))) H') : callS P (fnV 35) [.pointer (some ⟨vb, 0, none⟩), .slice a gs.length c, iv f] H K := by
  obtain ⟨hvl, hol, hne, hv, ho⟩ := hV
  have hgl := hr.len
  have hf1 := hf.1
  have hf2 := hf.2
  have bad_ : ∀ e, mutE gs f cs = e → e ≠ 0 → ∀ H', H.le H' → K (.returned (iv e)) H' := fun e he hne H' hle => by
    have hL : mutL gs f cs = cs := by unfold mutL; rw [he, if_neg hne]
    have := h H' (VolK.of hle) (by rw [hL]; exact (hle.get _ hol).trans ho)
    rw [he] at this; exact this
  by_cases hf0 : 0 ≤ f ∧ f ≤ 1000000000
  · by_cases htriv : True
    · skip
      by_cases hd : gs.length = cs.length
      · have hE : mutE gs f cs = 0 := by unfold mutE; rw [if_pos hf0, if_pos hd]
        have hL : mutL gs f cs = cs.mapIdx (muteF gs f) := by unfold mutL; rw [if_pos hE]
        rw [hE, hL] at h
        refine callS_walk tt_ok Try.func35 rfl (by kernel_rfl) ?_
        conv => whnf
        repeat' ((conv => whnf); first | (apply must_ok; (· (first | rfl | assumption | exact decide_eq_true (by omega)))) | (apply within_t; (· omega)) | ((first | (apply vB; (case h => with_reducible assumption)) | (apply vA; (case h => with_reducible assumption)) | (apply vC; (case h => with_reducible assumption)) | (apply vD; (case h => with_reducible assumption))); (case hk => exact kpA); (case he => omega)) | ((first | (apply vI; (case h => with_reducible assumption)) | (apply vG; (case h => with_reducible assumption)) | (apply vK; (case h => with_reducible assumption))); (case hk => exact kpA); (case he => omega); (case hp => omega); (case' g => intro hr_ hc_)) | ((first | (apply vJ; (case h => with_reducible assumption)) | (apply vH; (case h => with_reducible assumption)) | (apply vL; (case h => with_reducible assumption))); (case hk => exact kpA); (case he => omega); (case' g => intro hr_ hc_)) | (apply drawS_auto mixed tt_ok; (· kernel_rfl)) | apply zZ | apply yA | apply yB | ((first | apply zA | apply zC | apply zE | apply zG); (· with_reducible assumption)) | ((first | apply zB | apply zD | apply zF | apply zH); (· with_reducible assumption)) | apply zM | apply zN | apply zO | apply zP | apply zQ | apply zR | apply zS | apply zT | apply zU | (apply zV; (· omega)) | (apply zW; (· omega)) | (apply zX; (· (first | omega | (dsimp only; omega)))) | (apply zY; (try (apply zY; apply zX; (· omega))); apply zX; (· omega); apply zX; (· (first | omega | (dsimp only; omega)))) | ((first | apply yJ | apply yK | apply yL | apply yM | apply yN | apply yO); (· exact hgA); (· exact hsA)) | (apply yNP; (· exact hgA); (· exact hsA)) | ((first | apply zA | apply zC | apply zE | apply zG); (· omega)) | ((first | apply zB | apply zD | apply zF | apply zH); (· omega)) | ((first | apply zI | apply zK); (· with_reducible assumption)) | ((first | apply zJ | apply zL); (· with_reducible assumption)) | fail)
        conv => whnf
        apply loopS_mask tt_ok (fun (k : Nat × AHeap) => [.k, .k, .k, .w, .w, .w, .k, .w, .w, .w, .w, .w, .w, .w, .w, .w, .w, .w, .w, .w, .w, .w, .w, .w, .w, .w, .w, .k, .p (iv k.1), .w, .w, .w, .w, .w, .w, .w, .w, .w, .w, .w, .w, .w, .w, .w, .w, .w, .w, .w, .w, .w, .w]) (fun (k : Nat × AHeap) => k.2) (fun (k : Nat × AHeap) => k.1 ≤ cs.length ∧ H.size < k.2.size ∧ (∀ j, j < H.size → j ≠ ob → k.2.get j = H.get j) ∧ k.2.get H.size = some (.cells [iv 0] true 0) ∧ k.2.get ob = some (.cells (flatB chC (updN (muteF gs f) k.1 cs)) true 6)) (fun (k : Nat × AHeap) => cs.length - k.1) (⟨0, _⟩)
        case hst =>
          conv => whnf
          refine weakH_of (HW.refl _) ?_
          repeat' (first | exact WT.nil | refine WT.same ?_ | refine WT.drop ?_ | refine WT.int (by omega) ?_ | refine WT.eq (by assumption) ?_ | refine WT.bl (by first | assumption | (symm; assumption)) ?_ | refine WT.vv (by assumption) ?_)
        case h0 => exact ⟨by omega, hoA, fun j h1 _ => hgA, hgA, by rw [updN_zero]; (repeat (first | with_reducible assumption | ((first | apply yP | apply yQ); (first | omega | (simp; done) | (simp; omega))) | ((first | refine (yR _ _ ?_).trans ?_ | refine (yS _ _ ?_).trans ?_ | refine (yT _ ?_).trans ?_ | refine (yU (by with_reducible assumption) _ ?_).trans ?_); (· (first | omega | (simp; done) | (simp; omega)))) | exact rfl | assumption))⟩
        intro k hk
        obtain ⟨k, H1⟩ := k
        obtain ⟨hk, hs, hsame, ge, go⟩ := hk
        dsimp only at hk hs hsame ge go ⊢
        have gv := (hsame vb hvl hne).trans hv
        have hkp : Kp H H1 := ⟨by omega, fun i c sz hi g => by
          by_cases e : i = ob
          · subst e
            rw [ho] at g
            cases g
          · exact (hsame i hi e).trans g⟩
        by_cases hlt : k < cs.length
        · have hlg : k < gs.length := by omega
          obtain ⟨i0, off, rfl⟩ := hr.at hlg
          have hlu : k < (updN (muteF gs f) k cs).length := by rw [updN_len]; exact hlt
          have hcu := updN_get (F := muteF gs f) hlt hlu
          obtain ⟨a1, a2, a3, a4, a5⟩ := hok cs[k] (List.getElem_mem _)
          have hokc : okC { cs[k] with mute := gs[k] } := ⟨a1, a2, a3, a4, a5⟩
          have e1 : (chC (updN (muteF gs f) k cs)[k]).set 5 (.bool gs[k]) = chC { cs[k] with mute := gs[k] } := by rw [hcu]; rfl
          have hl2 : k < ((updN (muteF gs f) k cs).set k { cs[k] with mute := gs[k] }).length := by rw [List.length_set]; exact hlu
          have hc2 : okC (((updN (muteF gs f) k cs).set k { cs[k] with mute := gs[k] })[k]) := by rw [List.getElem_set_self]; exact hokc
          repeat' ((conv => whnf); first | (refine st1 go six_C hlu 5 { cs[k] with mute := gs[k] } ?_ ?_ e1 ?_; (· exact hoA); (· omega)) | (refine turn_c (cs := (updN (muteF gs f) k cs).set k { cs[k] with mute := gs[k] }) (k := k) (AHeap.set_same _ _ _) hl2 ?_ ?_ hc2 (fun H2 hs2 hsame2 g2 => ?_); (· exact hoA); (· exact hoA)) | ((first | (apply vB; (case h => with_reducible assumption)) | (apply vA; (case h => with_reducible assumption)) | (apply vC; (case h => with_reducible assumption)) | (apply vD; (case h => with_reducible assumption))); (case hk => exact kpA); (case he => omega)) | ((first | (apply vI; (case h => with_reducible assumption)) | (apply vG; (case h => with_reducible assumption)) | (apply vK; (case h => with_reducible assumption))); (case hk => exact kpA); (case he => omega); (case hp => omega); (case' g => intro hr_ hc_)) | ((first | (apply vJ; (case h => with_reducible assumption)) | (apply vH; (case h => with_reducible assumption)) | (apply vL; (case h => with_reducible assumption))); (case hk => exact kpA); (case he => omega); (case' g => intro hr_ hc_)) | (apply drawS_auto mixed tt_ok; (· kernel_rfl)) | apply zZ | apply yA | apply yB | ((first | apply zA | apply zC | apply zE | apply zG); (· with_reducible assumption)) | ((first | apply zB | apply zD | apply zF | apply zH); (· with_reducible assumption)) | apply zM | apply zN | apply zO | apply zP | apply zQ | apply zR | apply zS | apply zT | apply zU | (apply zV; (· omega)) | (apply zW; (· omega)) | (apply zX; (· (first | omega | (dsimp only; omega)))) | (apply zY; (try (apply zY; apply zX; (· omega))); apply zX; (· omega); apply zX; (· (first | omega | (dsimp only; omega)))) | ((first | apply yJ | apply yK | apply yL | apply yM | apply yN | apply yO); (· exact hgA); (· exact hsA)) | (apply yNP; (· exact hgA); (· exact hsA)) | ((first | apply zA | apply zC | apply zE | apply zG); (· omega)) | ((first | apply zB | apply zD | apply zF | apply zH); (· omega)) | ((first | apply zI | apply zK); (· with_reducible assumption)) | ((first | apply zJ | apply zL); (· with_reducible assumption)) | fail)
          conv => whnf
          rw [set_aux hlt hl2 (by unfold muteF; rw [show gs.getD k false = gs[k] by simp [List.getD, hlg]])] at g2
          have hs3 : H2.size = H1.size := hs2
          apply Exists.intro (k + 1, H2)
          refine ⟨?inv, ?mu, ?wk⟩
          case wk =>
            conv => whnf
            refine weakH_of (HW.refl _) ?_
            repeat' (first | exact WT.nil | refine WT.same ?_ | refine WT.drop ?_ | refine WT.int (by omega) ?_ | refine WT.eq (by assumption) ?_ | refine WT.bl (by first | assumption | (symm; assumption)) ?_ | refine WT.vv (by assumption) ?_)
          case mu => first | omega | (dsimp only; omega)
          case inv => exact ⟨by omega, by dsimp only; omega, fun j h1 h2 => (hsame2 j h2).trans ((AHeap.set_ne _ _ h2).trans (hsame j h1 h2)), (hsame2 H.size (by omega)).trans ((AHeap.set_ne _ _ (by omega)).trans ge), g2⟩
        · have hkn : k = cs.length := by omega
          subst hkn
          rw [updN_all] at go
          repeat' ((conv => whnf); first | (apply caught_ret; (· exact hoA); (· exact hgA); intro H2 hle2 hg2) | ((first | (apply vB; (case h => with_reducible assumption)) | (apply vA; (case h => with_reducible assumption)) | (apply vC; (case h => with_reducible assumption)) | (apply vD; (case h => with_reducible assumption))); (case hk => exact kpA); (case he => omega)) | ((first | (apply vI; (case h => with_reducible assumption)) | (apply vG; (case h => with_reducible assumption)) | (apply vK; (case h => with_reducible assumption))); (case hk => exact kpA); (case he => omega); (case hp => omega); (case' g => intro hr_ hc_)) | ((first | (apply vJ; (case h => with_reducible assumption)) | (apply vH; (case h => with_reducible assumption)) | (apply vL; (case h => with_reducible assumption))); (case hk => exact kpA); (case he => omega); (case' g => intro hr_ hc_)) | (apply drawS_auto mixed tt_ok; (· kernel_rfl)) | apply zZ | apply yA | apply yB | ((first | apply zA | apply zC | apply zE | apply zG); (· with_reducible assumption)) | ((first | apply zB | apply zD | apply zF | apply zH); (· with_reducible assumption)) | apply zM | apply zN | apply zO | apply zP | apply zQ | apply zR | apply zS | apply zT | apply zU | (apply zV; (· omega)) | (apply zW; (· omega)) | (apply zX; (· (first | omega | (dsimp only; omega)))) | (apply zY; (try (apply zY; apply zX; (· omega))); apply zX; (· omega); apply zX; (· (first | omega | (dsimp only; omega)))) | ((first | apply yJ | apply yK | apply yL | apply yM | apply yN | apply yO); (· exact hgA); (· exact hsA)) | (apply yNP; (· exact hgA); (· exact hsA)) | ((first | apply zA | apply zC | apply zE | apply zG); (· omega)) | ((first | apply zB | apply zD | apply zF | apply zH); (· omega)) | ((first | apply zI | apply zK); (· with_reducible assumption)) | ((first | apply zJ | apply zL); (· with_reducible assumption)) | fail)
          conv => whnf
          refine h _ ⟨?_, fun j h1 h2 => ?_⟩ ?_
          · have := hle2.size
            simp at this
            omega
          · refine (hle2.get j (by simp; omega)).trans ?_
            exact (AHeap.set_ne _ _ (by omega)).trans (hsame j h1 h2)
          · refine (hle2.get ob (by simp; omega)).trans ?_
            exact (AHeap.set_ne _ _ (by omega)).trans go
      · have hE : mutE gs f cs = 11 := by unfold mutE; rw [if_pos hf0, if_neg hd]
        refine callS_walk tt_ok Try.func35 rfl (by kernel_rfl) ?_
        conv => whnf
        repeat' ((conv => whnf); first | (apply must_ok; (· (first | rfl | assumption | exact decide_eq_true (by omega)))) | (apply within_t; (· omega)) | (apply must_no; (· (first | rfl | assumption | exact decide_eq_false (by omega)))) | (apply caught_panic; (· exact hoA); (· exact hgA); intro H2 hle2 hg2) | ((first | (apply vB; (case h => with_reducible assumption)) | (apply vA; (case h => with_reducible assumption)) | (apply vC; (case h => with_reducible assumption)) | (apply vD; (case h => with_reducible assumption))); (case hk => exact kpA); (case he => omega)) | ((first | (apply vI; (case h => with_reducible assumption)) | (apply vG; (case h => with_reducible assumption)) | (apply vK; (case h => with_reducible assumption))); (case hk => exact kpA); (case he => omega); (case hp => omega); (case' g => intro hr_ hc_)) | ((first | (apply vJ; (case h => with_reducible assumption)) | (apply vH; (case h => with_reducible assumption)) | (apply vL; (case h => with_reducible assumption))); (case hk => exact kpA); (case he => omega); (case' g => intro hr_ hc_)) | (apply drawS_auto mixed tt_ok; (· kernel_rfl)) | apply zZ | apply yA | apply yB | ((first | apply zA | apply zC | apply zE | apply zG); (· with_reducible assumption)) | ((first | apply zB | apply zD | apply zF | apply zH); (· with_reducible assumption)) | apply zM | apply zN | apply zO | apply zP | apply zQ | apply zR | apply zS | apply zT | apply zU | (apply zV; (· omega)) | (apply zW; (· omega)) | (apply zX; (· (first | omega | (dsimp only; omega)))) | (apply zY; (try (apply zY; apply zX; (· omega))); apply zX; (· omega); apply zX; (· (first | omega | (dsimp only; omega)))) | ((first | apply yJ | apply yK | apply yL | apply yM | apply yN | apply yO); (· exact hgA); (· exact hsA)) | (apply yNP; (· exact hgA); (· exact hsA)) | ((first | apply zA | apply zC | apply zE | apply zG); (· omega)) | ((first | apply zB | apply zD | apply zF | apply zH); (· omega)) | ((first | apply zI | apply zK); (· with_reducible assumption)) | ((first | apply zJ | apply zL); (· with_reducible assumption)) | fail)
        conv => whnf
        exact bad_ 11 hE (by omega) _ (AHeap.le.trans leA hle2)
    · exact absurd trivial htriv
  · have hE : mutE gs f cs = 7 := by unfold mutE; rw [if_neg hf0]
    refine callS_walk tt_ok Try.func35 rfl (by kernel_rfl) ?_
    conv => whnf
    repeat' ((conv => whnf); first | (apply must_ok; (· (first | rfl | assumption | exact decide_eq_true (by omega)))) | (apply within_f; (· omega)) | (apply must_no; (· (first | rfl | assumption | exact decide_eq_false (by omega)))) | (apply caught_panic; (· exact hoA); (· exact hgA); intro H2 hle2 hg2) | ((first | (apply vB; (case h => with_reducible assumption)) | (apply vA; (case h => with_reducible assumption)) | (apply vC; (case h => with_reducible assumption)) | (apply vD; (case h => with_reducible assumption))); (case hk => exact kpA); (case he => omega)) | ((first | (apply vI; (case h => with_reducible assumption)) | (apply vG; (case h => with_reducible assumption)) | (apply vK; (case h => with_reducible assumption))); (case hk => exact kpA); (case he => omega); (case hp => omega); (case' g => intro hr_ hc_)) | ((first | (apply vJ; (case h => with_reducible assumption)) | (apply vH; (case h => with_reducible assumption)) | (apply vL; (case h => with_reducible assumption))); (case hk => exact kpA); (case he => omega); (case' g => intro hr_ hc_)) | (apply drawS_auto mixed tt_ok; (· kernel_rfl)) | apply zZ | apply yA | apply yB | ((first | apply zA | apply zC | apply zE | apply zG); (· with_reducible assumption)) | ((first | apply zB | apply zD | apply zF | apply zH); (· with_reducible assumption)) | apply zM | apply zN | apply zO | apply zP | apply zQ | apply zR | apply zS | apply zT | apply zU | (apply zV; (· omega)) | (apply zW; (· omega)) | (apply zX; (· (first | omega | (dsimp only; omega)))) | (apply zY; (try (apply zY; apply zX; (· omega))); apply zX; (· omega); apply zX; (· (first | omega | (dsimp only; omega)))) | ((first | apply yJ | apply yK | apply yL | apply yM | apply yN | apply yO); (· exact hgA); (· exact hsA)) | (apply yNP; (· exact hgA); (· exact hsA)) | ((first | apply zA | apply zC | apply zE | apply zG); (· omega)) | ((first | apply zB | apply zD | apply zF | apply zH); (· omega)) | ((first | apply zI | apply zK); (· with_reducible assumption)) | ((first | apply zJ | apply zL); (· with_reducible assumption)) | fail)
    conv => whnf
    exact bad_ 7 hE (by omega) _ (AHeap.le.trans leA hle2)
end Go.Abs
