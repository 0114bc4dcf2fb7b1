/- Contract of the dither's Encode, the program's. -/
import Derived.Test.YthjmijjppaebgaaH04
set_option linter.all false
set_option maxHeartbeats 2000000
set_option maxRecDepth 20000
namespace Go.Abs
open Go Go.Proofs

theorem bstr_nil0 : bstr [] = .empty := rfl
theorem bstr_def0 (bs : List Int) : bstr bs = strV (bs.map (Value.int .u8)) := rfl
theorem encM_0 (e : Int) (pl : Bool) (m : List (List Int)) : encM e pl m 0 = [] := rfl
attribute [local irreducible] nB idx pc pf maxF bytesAt bstr unitF dE dL dA dR dX nxt dstepL dstepE encM dLm
theorem put_ms {e : Int} {ct : TypeId} {cx : Value} (he : enc e) (hcod : codAt e = .iface ct cx) {p : Prop} (hp : p) : tyK tt ct fun te => okK te.d (bothK (te.ms.contains "continuo/sample.put") true p) := by
  rcases cod_cases he with ⟨b, g, h⟩ | h
  · rw [h] at hcod
    cases hcod
    conv => whnf
    exact hp
  · rw [h] at hcod
    cases hcod
    conv => whnf
    exact hp
theorem OMat.lower {H : AHeap} {b b' o : Nat} {rs : List Nat} {m : List (List Int)} {rest : List Value} (h : OMat H b o rs m rest) (hb : b' ≤ b) : OMat H b' o rs m rest :=
  { h with lo := ⟨Nat.le_trans hb h.lo.1, fun r hr => Nat.le_trans hb (h.lo.2 r hr)⟩ }
theorem share3 {α β γ : Type} {F G : α → β → γ → Prop} {A : Prop} (h : (∀ a b c, F a b c → G a b c) → A) (r : ∀ a b c, F a b c → G a b c) : A := h r
theorem share4 {α β γ δ : Type} {F G : α → β → γ → δ → Prop} {A : Prop} (h : (∀ a b c d, F a b c d → G a b c d) → A) (r : ∀ a b c d, F a b c d → G a b c d) : A := h r
theorem codings_g {H : AHeap} {K : CK} (h : ∀ cb H', H.le H' → H'.size = H.size + 1 → H.size ≤ cb → cb < H'.size → H'.get cb = some (.cells codL true 1) → K (.returned (.slice (some ⟨cb, 0, none⟩) 9 9)) H') : callS P (fnV 50) [] H K :=
  codings_c (h _ _ (AHeap.le.push (AHeap.le.refl _) _) (AHeap.push_size _ _) (Nat.le_refl _) (by rw [AHeap.push_size]; omega) (AHeap.push_new _ _))
theorem dEnc_c {d o : Nat} {e : Int} {sh pl : Bool} {R : Int} {E : List Int} {p : Option Addr} {c : Nat} {b : List (List Int)} {H : AHeap} {K : CK} (he : enc e) (h4 : e ≤ 4) (hR : inD R) (hE : okE E) (hb : Mat H p b) (hD : DitN H d o e sh R E) (h0 : dithC b E = 0)
    (h : ∀ H', H.size ≤ H'.size → (∀ j, j < H.size → j ≠ d → j ≠ o → H'.get j = H.get j) → DitN H' d o e sh (dithR b R E) (dithE e sh b R E) → K (.returned (.tuple #[.string (dithS e sh pl b R E), iv 0])) H') :
    callS P (fnV 22) [.pointer (some ⟨d, 0, none⟩), .bool pl, .slice p b.length c] H K := by
  obtain ⟨hne, hd, ho, gd, go⟩ := hD
  have hv : blockB b = true := by
    cases hv : blockB b with
    | true => rfl
    | false => unfold dithC at h0; rw [hv] at h0; simp at h0
  have hl : b.length = E.length := by
    unfold dithC at h0; rw [if_pos hv] at h0
    by_cases hl : b.length = E.length
    · exact hl
    · rw [if_neg hl] at h0; omega
  obtain ⟨⟨hb1, hb8⟩, hbr⟩ := blockB_rows hv
  have hb0 : 0 < b.length := hb1
  have hfr := frames0 hb0
  have hL4 := (hbr b[0] (List.getElem_mem _)).2.1
  obtain ⟨i0, off, rfl⟩ := hb.at hb0
  obtain ⟨ct, cx, hcod⟩ := cod_form he
  obtain ⟨bb, hbb⟩ : ∃ bb, bitsF e = bb := ⟨_, rfl⟩
  have hbb2 : 8 ≤ bb ∧ bb ≤ 16 := by rw [← hbb]; unfold bitsF; omega
  have hshl := unit_shl he h4
  rw [hbb] at hshl
  have hu := unitF_bd e
  have hh := half_bd e
  have hmx := maxF_bd e
  have hm4 := maxF4 h4
  have hnd : ∀ j c2 sz, H.get j = some (.cells c2 false sz) → j ≠ d ∧ j ≠ o := fun j c2 sz hg => ⟨fun hj => by rw [hj, gd] at hg; simp at hg, fun hj => by rw [hj, go] at hg; simp at hg⟩
  refine callS_walk tt_ok Try.func22 rfl (by kernel_rfl) ?_
  conv => whnf
  repeat' ((conv => whnf); first | (apply layValid_v; (· exact mtA); (· with_reducible assumption)) | ((first | (apply vB; (case h => with_reducible assumption)) | (apply vA; (case h => with_reducible assumption)) | (apply vC; (case h => with_reducible assumption)) | (apply vD; (case h => with_reducible assumption))); (case hk => exact kpA); (case he => omega)) | ((first | (apply vI; (case h => with_reducible assumption)) | (apply vG; (case h => with_reducible assumption)) | (apply vK; (case h => with_reducible assumption))); (case hk => exact kpA); (case he => omega); (case hp => omega); (case' g => intro hr_ hc_)) | ((first | (apply vJ; (case h => with_reducible assumption)) | (apply vH; (case h => with_reducible assumption)) | (apply vL; (case h => with_reducible assumption))); (case hk => exact kpA); (case he => omega); (case' g => intro hr_ hc_)) | (apply drawS_auto mixed tt_ok; (· kernel_rfl)) | apply zZ | apply yA | apply yB | ((first | apply zA | apply zC | apply zE | apply zG); (· with_reducible assumption)) | ((first | apply zB | apply zD | apply zF | apply zH); (· with_reducible assumption)) | apply zM | apply zN | apply zO | apply zP | apply zQ | apply zR | apply zS | apply zT | apply zU | (apply zV; (· omega)) | (apply zW; (· omega)) | (apply zX; (· (first | omega | (dsimp only; omega)))) | (apply zY; (try (apply zY; apply zX; (· omega))); apply zX; (· omega); apply zX; (· (first | omega | (dsimp only; omega)))) | ((first | apply yJ | apply yK | apply yL | apply yM | apply yN | apply yO); (· exact hgA); (· exact hsA)) | (apply yNP; (· exact hgA); (· exact hsA)) | ((first | apply zA | apply zC | apply zE | apply zG); (· omega)) | ((first | apply zB | apply zD | apply zF | apply zH); (· omega)) | ((first | apply zI | apply zK); (· with_reducible assumption)) | ((first | apply zJ | apply zL); (· with_reducible assumption)) | ((first | apply xA | apply xC | apply xE | apply xG); (· first | assumption | rfl)) | ((first | apply xB | apply xD | apply xF | apply xH); (· first | assumption | kernel_rfl)) | fail)
  conv => whnf
  apply share3 (F := fun (cb kc : Nat) (HH : AHeap) => HH.size = H.size + 4 ∧ (H.size + 2 ≤ kc ∧ kc < H.size + 4) ∧ H.le HH ∧ HH.get H.size = some (.cells [.pointer (some ⟨d, 0, none⟩)] true 0) ∧ HH.get (H.size + 1) = some (.cells [.slice (some ⟨i0, off, none⟩) b.length c] true 0) ∧ HH.get kc = some (.cells [.iface ct cx] true 0))
  · intro rest
    refine ⟨?_, ?_⟩
    · skip
      repeat' ((conv => whnf); first | refine codings_g (fun cb H1 hle1 hz1 hcb1 hcl1 gc1 => ?_); (have hz1 : H1.size = H.size + 3 := by rw [hz1, AHeap.push_size, AHeap.push_size]); (have gD1 : H1.get H.size = some (.cells [.pointer (some ⟨d, 0, none⟩)] true 0) := (hle1.get H.size hoA).trans hgA); (have gB1 : H1.get (H.size + 1) = some (.cells [.slice (some ⟨i0, off, none⟩) b.length c] true 0) := (hle1.get (H.size + 1) hoA).trans hgA); (have gd1 : H1.get d = some (.cells [iv R, iv e, .bool sh, .slice (some ⟨o, 0, none⟩) E.length E.length] true 0) := (hle1.get d hoA).trans hgA) | (refine loadK_cod he ?_ ?_; (· exact hgA); rw [hcod]) | ((first | (apply vB; (case h => with_reducible assumption)) | (apply vA; (case h => with_reducible assumption)) | (apply vC; (case h => with_reducible assumption)) | (apply vD; (case h => with_reducible assumption))); (case hk => exact kpA); (case he => omega)) | ((first | (apply vI; (case h => with_reducible assumption)) | (apply vG; (case h => with_reducible assumption)) | (apply vK; (case h => with_reducible assumption))); (case hk => exact kpA); (case he => omega); (case hp => omega); (case' g => intro hr_ hc_)) | ((first | (apply vJ; (case h => with_reducible assumption)) | (apply vH; (case h => with_reducible assumption)) | (apply vL; (case h => with_reducible assumption))); (case hk => exact kpA); (case he => omega); (case' g => intro hr_ hc_)) | (apply drawS_auto mixed tt_ok; (· kernel_rfl)) | apply zZ | apply yA | apply yB | ((first | apply zA | apply zC | apply zE | apply zG); (· with_reducible assumption)) | ((first | apply zB | apply zD | apply zF | apply zH); (· with_reducible assumption)) | apply zM | apply zN | apply zO | apply zP | apply zQ | apply zR | apply zS | apply zT | apply zU | (apply zV; (· omega)) | (apply zW; (· omega)) | (apply zX; (· (first | omega | (dsimp only; omega)))) | (apply zY; (try (apply zY; apply zX; (· omega))); apply zX; (· omega); apply zX; (· (first | omega | (dsimp only; omega)))) | ((first | apply yJ | apply yK | apply yL | apply yM | apply yN | apply yO); (· exact hgA); (· exact hsA)) | (apply yNP; (· exact hgA); (· exact hsA)) | ((first | apply zA | apply zC | apply zE | apply zG); (· omega)) | ((first | apply zB | apply zD | apply zF | apply zH); (· omega)) | ((first | apply zI | apply zK); (· with_reducible assumption)) | ((first | apply zJ | apply zL); (· with_reducible assumption)) | ((first | apply xA | apply xC | apply xE | apply xG); (· first | assumption | rfl)) | ((first | apply xB | apply xD | apply xF | apply xH); (· first | assumption | kernel_rfl)) | fail)
      conv => whnf
      simp only [AHeap.push_size, AHeap.set_size] at hz1 hle1 ⊢
      generalize hkc : H1.size = kc
      generalize hHH : AHeap.set (AHeap.push H1 _) kc _ = HH
      refine rest cb kc HH ?_
      subst hkc
      subst hHH
      exact ⟨by rw [AHeap.set_size, AHeap.push_size]; omega, by omega, AHeap.le.set (AHeap.le.push (AHeap.le.trans leA hle1) _) (by omega) _, hgA, hgA, AHeap.set_same _ _ _⟩
    · skip
      repeat' ((conv => whnf); first | refine codings_g (fun cb H1 hle1 hz1 hcb1 hcl1 gc1 => ?_); (have hz1 : H1.size = H.size + 4 := by rw [hz1, AHeap.push_size, AHeap.push_size, AHeap.push_size]); (have gD1 : H1.get H.size = some (.cells [.pointer (some ⟨d, 0, none⟩)] true 0) := (hle1.get H.size hoA).trans hgA); (have gB1 : H1.get (H.size + 1) = some (.cells [.slice (some ⟨i0, off, none⟩) b.length c] true 0) := (hle1.get (H.size + 1) hoA).trans hgA); (have gd1 : H1.get d = some (.cells [iv R, iv e, .bool sh, .slice (some ⟨o, 0, none⟩) E.length E.length] true 0) := (hle1.get d hoA).trans hgA) | (refine loadK_cod he ?_ ?_; (· exact hgA); rw [hcod]) | ((first | (apply vB; (case h => with_reducible assumption)) | (apply vA; (case h => with_reducible assumption)) | (apply vC; (case h => with_reducible assumption)) | (apply vD; (case h => with_reducible assumption))); (case hk => exact kpA); (case he => omega)) | ((first | (apply vI; (case h => with_reducible assumption)) | (apply vG; (case h => with_reducible assumption)) | (apply vK; (case h => with_reducible assumption))); (case hk => exact kpA); (case he => omega); (case hp => omega); (case' g => intro hr_ hc_)) | ((first | (apply vJ; (case h => with_reducible assumption)) | (apply vH; (case h => with_reducible assumption)) | (apply vL; (case h => with_reducible assumption))); (case hk => exact kpA); (case he => omega); (case' g => intro hr_ hc_)) | (apply drawS_auto mixed tt_ok; (· kernel_rfl)) | apply zZ | apply yA | apply yB | ((first | apply zA | apply zC | apply zE | apply zG); (· with_reducible assumption)) | ((first | apply zB | apply zD | apply zF | apply zH); (· with_reducible assumption)) | apply zM | apply zN | apply zO | apply zP | apply zQ | apply zR | apply zS | apply zT | apply zU | (apply zV; (· omega)) | (apply zW; (· omega)) | (apply zX; (· (first | omega | (dsimp only; omega)))) | (apply zY; (try (apply zY; apply zX; (· omega))); apply zX; (· omega); apply zX; (· (first | omega | (dsimp only; omega)))) | ((first | apply yJ | apply yK | apply yL | apply yM | apply yN | apply yO); (· exact hgA); (· exact hsA)) | (apply yNP; (· exact hgA); (· exact hsA)) | ((first | apply zA | apply zC | apply zE | apply zG); (· omega)) | ((first | apply zB | apply zD | apply zF | apply zH); (· omega)) | ((first | apply zI | apply zK); (· with_reducible assumption)) | ((first | apply zJ | apply zL); (· with_reducible assumption)) | ((first | apply xA | apply xC | apply xE | apply xG); (· first | assumption | rfl)) | ((first | apply xB | apply xD | apply xF | apply xH); (· first | assumption | kernel_rfl)) | fail)
      conv => whnf
      simp only [AHeap.push_size, AHeap.set_size] at hle1 ⊢
      generalize hkc : H.size + 1 + 1 = kc
      generalize hHH : AHeap.set H1 kc _ = HH
      refine rest cb kc HH ?_
      subst hkc
      subst hHH
      exact ⟨by rw [AHeap.set_size]; omega, by omega, AHeap.le.set (AHeap.le.trans leA hle1) (by omega) _, hgA, hgA, AHeap.set_same _ _ _⟩
  · rintro cb kc HH ⟨hzH, hkc, hleH, gD1, gB1, gk1⟩
    have gd1 : HH.get d = some (.cells [iv R, iv e, .bool sh, .slice (some ⟨o, 0, none⟩) E.length E.length] true 0) := (hleH.get d hoA).trans hgA
    have go1 : HH.get o = some (.cells (E.map (Value.int .i64)) true 1) := (hleH.get o hoA).trans hgA
    repeat' ((conv => whnf); first | refine bits_w hcod he hbb ?_ | (refine intK_shl hshl ?_ ?_; (· omega)) | ((first | (apply vB; (case h => with_reducible assumption)) | (apply vA; (case h => with_reducible assumption)) | (apply vC; (case h => with_reducible assumption)) | (apply vD; (case h => with_reducible assumption))); (case hk => exact kpA); (case he => omega)) | ((first | (apply vI; (case h => with_reducible assumption)) | (apply vG; (case h => with_reducible assumption)) | (apply vK; (case h => with_reducible assumption))); (case hk => exact kpA); (case he => omega); (case hp => omega); (case' g => intro hr_ hc_)) | ((first | (apply vJ; (case h => with_reducible assumption)) | (apply vH; (case h => with_reducible assumption)) | (apply vL; (case h => with_reducible assumption))); (case hk => exact kpA); (case he => omega); (case' g => intro hr_ hc_)) | (apply drawS_auto mixed tt_ok; (· kernel_rfl)) | apply zZ | apply yA | apply yB | ((first | apply zA | apply zC | apply zE | apply zG); (· with_reducible assumption)) | ((first | apply zB | apply zD | apply zF | apply zH); (· with_reducible assumption)) | apply zM | apply zN | apply zO | apply zP | apply zQ | apply zR | apply zS | apply zT | apply zU | (apply zV; (· omega)) | (apply zW; (· omega)) | (apply zX; (· (first | omega | (dsimp only; omega)))) | (apply zY; (try (apply zY; apply zX; (· omega))); apply zX; (· omega); apply zX; (· (first | omega | (dsimp only; omega)))) | ((first | apply yJ | apply yK | apply yL | apply yM | apply yN | apply yO); (· exact hgA); (· exact hsA)) | (apply yNP; (· exact hgA); (· exact hsA)) | ((first | apply zA | apply zC | apply zE | apply zG); (· omega)) | ((first | apply zB | apply zD | apply zF | apply zH); (· omega)) | ((first | apply zI | apply zK); (· with_reducible assumption)) | ((first | apply zJ | apply zL); (· with_reducible assumption)) | ((first | apply xA | apply xC | apply xE | apply xG); (· first | assumption | rfl)) | ((first | apply xB | apply xD | apply xF | apply xH); (· first | assumption | kernel_rfl)) | fail)
    conv => whnf
    apply share4 (F := fun (tc o2 : Nat) (rs : List Nat) (H1 : AHeap) => (H.size + 5 ≤ tc ∧ tc < H1.size ∧ tc ≠ o2 ∧ tc ∉ rs) ∧ OMat H1 (H.size + 5) o2 rs (matF (fun _ _ => 0) b.length b[0].length) [] ∧ H.le H1 ∧ H1.get H.size = some (.cells [.pointer (some ⟨d, 0, none⟩)] true 0) ∧ H1.get (H.size + 1) = some (.cells [.slice (some ⟨i0, off, none⟩) b.length c] true 0) ∧
      H1.get kc = some (.cells [.iface ct cx] true 0) ∧ H1.get HH.size = some (.cells [iv (unitF e)] true 0) ∧ H1.get tc = some (.cells [.slice (some ⟨o2, 0, none⟩) b.length b.length] true 0))
    · intro rest
      refine ⟨?_, ?_⟩
      · skip
        repeat' ((conv => whnf); first | (refine silent_c (n := b.length) (m := b[0].length) ?_ (fun H1 o2 rs hle hom => ?_); (· omega); (have hs1 : H.size + 5 ≤ H1.size := by have := hle.size; rw [AHeap.set_size, AHeap.push_size] at this; omega); (have hj1 := hle.get)) | ((first | (apply vB; (case h => with_reducible assumption)) | (apply vA; (case h => with_reducible assumption)) | (apply vC; (case h => with_reducible assumption)) | (apply vD; (case h => with_reducible assumption))); (case hk => exact kpA); (case he => omega)) | ((first | (apply vI; (case h => with_reducible assumption)) | (apply vG; (case h => with_reducible assumption)) | (apply vK; (case h => with_reducible assumption))); (case hk => exact kpA); (case he => omega); (case hp => omega); (case' g => intro hr_ hc_)) | ((first | (apply vJ; (case h => with_reducible assumption)) | (apply vH; (case h => with_reducible assumption)) | (apply vL; (case h => with_reducible assumption))); (case hk => exact kpA); (case he => omega); (case' g => intro hr_ hc_)) | (apply drawS_auto mixed tt_ok; (· kernel_rfl)) | apply zZ | apply yA | apply yB | ((first | apply zA | apply zC | apply zE | apply zG); (· with_reducible assumption)) | ((first | apply zB | apply zD | apply zF | apply zH); (· with_reducible assumption)) | apply zM | apply zN | apply zO | apply zP | apply zQ | apply zR | apply zS | apply zT | apply zU | (apply zV; (· omega)) | (apply zW; (· omega)) | (apply zX; (· (first | omega | (dsimp only; omega)))) | (apply zY; (try (apply zY; apply zX; (· omega))); apply zX; (· omega); apply zX; (· (first | omega | (dsimp only; omega)))) | ((first | apply yJ | apply yK | apply yL | apply yM | apply yN | apply yO); (· exact hgA); (· exact hsA)) | (apply yNP; (· exact hgA); (· exact hsA)) | ((first | apply zA | apply zC | apply zE | apply zG); (· omega)) | ((first | apply zB | apply zD | apply zF | apply zH); (· omega)) | ((first | apply zI | apply zK); (· with_reducible assumption)) | ((first | apply zJ | apply zL); (· with_reducible assumption)) | ((first | apply xA | apply xC | apply xE | apply xG); (· first | assumption | rfl)) | ((first | apply xB | apply xD | apply xF | apply xH); (· first | assumption | kernel_rfl)) | fail)
        conv => whnf
        have hlt := hom.lt
        have hz0 : HH.size + 1 = H.size + 5 := by omega
        simp only [AHeap.push_size, AHeap.set_size] at hom ⊢
        rw [hz0] at hom
        generalize htc : H1.size = tc
        generalize hHX : AHeap.set (AHeap.push H1 _) tc _ = HX
        refine rest tc o2 rs HX ?_
        subst htc
        subst hHX
        refine ⟨⟨by omega, by rw [AHeap.set_size, AHeap.push_size]; omega, by omega, fun hm => by have := hlt.2 _ hm; omega⟩, hom.of_get (by rw [AHeap.set_size, AHeap.push_size]; omega) (fun j hj _ => (AHeap.set_ne _ _ (by omega)).trans (AHeap.push_ne _ _ (Nat.ne_of_lt hj))), AHeap.le.set (AHeap.le.push (AHeap.le.trans leA hle) _) (by omega) _, ?_, ?_, ?_, ?_, AHeap.set_same _ _ _⟩
        all_goals exact (AHeap.set_ne _ _ (by omega)).trans ((AHeap.push_ne _ _ (by omega)).trans ((hj1 _ hoA).trans hgA))
      · skip
        repeat' ((conv => whnf); first | (refine silent_c (n := b.length) (m := b[0].length) ?_ (fun H1 o2 rs hle hom => ?_); (· omega); (have hs1 : H.size + 5 ≤ H1.size := by have := hle.size; rw [AHeap.push_size, AHeap.set_size, AHeap.push_size] at this; omega); (have hj1 := hle.get)) | ((first | (apply vB; (case h => with_reducible assumption)) | (apply vA; (case h => with_reducible assumption)) | (apply vC; (case h => with_reducible assumption)) | (apply vD; (case h => with_reducible assumption))); (case hk => exact kpA); (case he => omega)) | ((first | (apply vI; (case h => with_reducible assumption)) | (apply vG; (case h => with_reducible assumption)) | (apply vK; (case h => with_reducible assumption))); (case hk => exact kpA); (case he => omega); (case hp => omega); (case' g => intro hr_ hc_)) | ((first | (apply vJ; (case h => with_reducible assumption)) | (apply vH; (case h => with_reducible assumption)) | (apply vL; (case h => with_reducible assumption))); (case hk => exact kpA); (case he => omega); (case' g => intro hr_ hc_)) | (apply drawS_auto mixed tt_ok; (· kernel_rfl)) | apply zZ | apply yA | apply yB | ((first | apply zA | apply zC | apply zE | apply zG); (· with_reducible assumption)) | ((first | apply zB | apply zD | apply zF | apply zH); (· with_reducible assumption)) | apply zM | apply zN | apply zO | apply zP | apply zQ | apply zR | apply zS | apply zT | apply zU | (apply zV; (· omega)) | (apply zW; (· omega)) | (apply zX; (· (first | omega | (dsimp only; omega)))) | (apply zY; (try (apply zY; apply zX; (· omega))); apply zX; (· omega); apply zX; (· (first | omega | (dsimp only; omega)))) | ((first | apply yJ | apply yK | apply yL | apply yM | apply yN | apply yO); (· exact hgA); (· exact hsA)) | (apply yNP; (· exact hgA); (· exact hsA)) | ((first | apply zA | apply zC | apply zE | apply zG); (· omega)) | ((first | apply zB | apply zD | apply zF | apply zH); (· omega)) | ((first | apply zI | apply zK); (· with_reducible assumption)) | ((first | apply zJ | apply zL); (· with_reducible assumption)) | ((first | apply xA | apply xC | apply xE | apply xG); (· first | assumption | rfl)) | ((first | apply xB | apply xD | apply xF | apply xH); (· first | assumption | kernel_rfl)) | fail)
        conv => whnf
        have hlt := hom.lt
        have hlo := hom.lo
        have hz0 : HH.size + 1 = H.size + 5 := by omega
        simp only [AHeap.push_size, AHeap.set_size] at hom hlo ⊢
        generalize htc : HH.size + 1 = tc at *
        generalize hHX : AHeap.set H1 tc _ = HX
        refine rest tc o2 rs HX ?_
        subst hHX
        have hs2 : tc + 1 ≤ H1.size := by have := hle.size; simp only [AHeap.push_size, AHeap.set_size] at this; omega
        refine ⟨⟨by omega, by rw [AHeap.set_size]; omega, by omega, fun hm => by have := hlo.2 _ hm; omega⟩, (hom.lower (by omega)).of_get (by rw [AHeap.set_size]; omega) (fun j hj hjm => AHeap.set_ne _ _ (by
          rcases hjm with rfl | hjm
          · omega
          · have := hlo.2 _ hjm; omega)), AHeap.le.set (AHeap.le.trans leA hle) (by omega) _, ?_, ?_, ?_, ?_, AHeap.set_same _ _ _⟩
        all_goals exact (AHeap.set_ne _ _ (by omega)).trans ((hj1 _ hoA).trans hgA)
    · rintro tc o2 rs H1 ⟨⟨htc, htc1, htco, htcr⟩, hom, hH1, gD, gB, gk, gs, gL⟩
      have gd2 : H1.get d = some (.cells [iv R, iv e, .bool sh, .slice (some ⟨o, 0, none⟩) E.length E.length] true 0) := (hH1.get d hoA).trans hgA
      have go2 : H1.get o = some (.cells (E.map (Value.int .i64)) true 1) := (hH1.get o hoA).trans hgA
      have hoj : ∀ j, j = o2 ∨ j ∈ rs → H.size + 5 ≤ j ∧ j < H1.size := fun j hj => by
        rcases hj with rfl | hj
        · exact ⟨hom.lo.1, hom.lt.1⟩
        · exact ⟨hom.lo.2 _ hj, hom.lt.2 _ hj⟩
      have nin : ∀ {j : Nat}, (j < H.size + 5 ∨ H1.size ≤ j) → j ∉ rs := fun hj hm => by
        have := hoj _ (.inr hm)
        omega
      repeat' ((conv => whnf); first | (refine callS_walk tt_ok Try.func60 rfl (by kernel_rfl) ?_) | ((first | (apply vB; (case h => with_reducible assumption)) | (apply vA; (case h => with_reducible assumption)) | (apply vC; (case h => with_reducible assumption)) | (apply vD; (case h => with_reducible assumption))); (case hk => exact kpA); (case he => omega)) | ((first | (apply vI; (case h => with_reducible assumption)) | (apply vG; (case h => with_reducible assumption)) | (apply vK; (case h => with_reducible assumption))); (case hk => exact kpA); (case he => omega); (case hp => omega); (case' g => intro hr_ hc_)) | ((first | (apply vJ; (case h => with_reducible assumption)) | (apply vH; (case h => with_reducible assumption)) | (apply vL; (case h => with_reducible assumption))); (case hk => exact kpA); (case he => omega); (case' g => intro hr_ hc_)) | (apply drawS_auto mixed tt_ok; (· kernel_rfl)) | apply zZ | apply yA | apply yB | ((first | apply zA | apply zC | apply zE | apply zG); (· with_reducible assumption)) | ((first | apply zB | apply zD | apply zF | apply zH); (· with_reducible assumption)) | apply zM | apply zN | apply zO | apply zP | apply zQ | apply zR | apply zS | apply zT | apply zU | (apply zV; (· omega)) | (apply zW; (· omega)) | (apply zX; (· (first | omega | (dsimp only; omega)))) | (apply zY; (try (apply zY; apply zX; (· omega))); apply zX; (· omega); apply zX; (· (first | omega | (dsimp only; omega)))) | ((first | apply yJ | apply yK | apply yL | apply yM | apply yN | apply yO); (· exact hgA); (· exact hsA)) | (apply yNP; (· exact hgA); (· exact hsA)) | ((first | apply zA | apply zC | apply zE | apply zG); (· omega)) | ((first | apply zB | apply zD | apply zF | apply zH); (· omega)) | ((first | apply zI | apply zK); (· with_reducible assumption)) | ((first | apply zJ | apply zL); (· with_reducible assumption)) | ((first | apply xA | apply xC | apply xE | apply xG); (· first | assumption | rfl)) | ((first | apply xB | apply xD | apply xF | apply xH); (· first | assumption | kernel_rfl)) | fail)
      conv => whnf
      simp only [AHeap.push_size, AHeap.set_size]
      refine places_c (C := b.length) (N := b[0].length) (pl := false) (I := fun Hb i HY => HY.size = Hb.size ∧ (∀ j, j < Hb.size → j ≠ d → j ≠ o → j ∉ rs → HY.get j = Hb.get j) ∧ HY.get d = some (.cells [iv (dR R i), iv e, .bool sh, .slice (some ⟨o, 0, none⟩) E.length E.length] true 0) ∧ HY.get o = some (.cells ((dE e sh b R E i).map (Value.int .i64)) true 1) ∧
        OMat HY (H.size + 5) o2 rs (matF (fun c f => if idx false b.length b[0].length c f < i then dLm e sh b R E c f else 0) b.length b[0].length) []) ⟨hb1, hb8⟩ (by omega) ?_ ?_ ?_ ?_
      · rintro i HY ⟨hsz, hsame, _⟩
        exact ⟨(hsame H1.size hoA (by omega) (by omega) (nin (by omega))).trans hgA, (hsame (H1.size + 1) hoA (by omega) (by omega) (nin (by omega))).trans hgA, (hsame (H1.size + 2) hoA (by omega) (by omega) (nin (by omega))).trans hgA⟩
      · refine ⟨rfl, fun _ _ _ _ _ => rfl, ?_, ?_, ?_⟩
        · rw [dR_0]
          exact hgA
        · rw [dE_0]
          exact hgA
        · exact (hom.cast _ (fun i hi c hc => by simp)).of_get hoA (fun j hj _ => hgA)
      · rintro i HY K1 hi ⟨hsz, hsame, gd2, go2, homi⟩ hK
        have hsz' : HY.size = H1.size + 5 := hsz
        have gl : HY.get (H1.size + 4) = some (.loop _) := (hsame (H1.size + 4) hoA (by omega) (by omega) (nin (by omega))).trans hgA
        have gD : HY.get H.size = some (.cells [.pointer (some ⟨d, 0, none⟩)] true 0) := (hsame H.size hoA (by omega) (by omega) (nin (by omega))).trans hgA
        have gB : HY.get (H.size + 1) = some (.cells [.slice (some ⟨i0, off, none⟩) b.length c] true 0) := (hsame (H.size + 1) hoA (by omega) (by omega) (nin (by omega))).trans hgA
        have gk : HY.get kc = some (.cells [.iface ct cx] true 0) := (hsame kc hoA (by omega) (by omega) (nin (by omega))).trans hgA
        have gs : HY.get (HH.size) = some (.cells [iv (unitF e)] true 0) := (hsame (HH.size) hoA (by omega) (by omega) (nin (by omega))).trans hgA
        have gL : HY.get tc = some (.cells [.slice (some ⟨o2, 0, none⟩) b.length b.length] true 0) := (hsame tc hoA (by omega) (by omega) htcr).trans hgA
        have hkH : Kp H HY := ⟨by have := hH1.size; omega, fun j c2 sz hj hg => by
          obtain ⟨n1, n2⟩ := hnd j c2 sz hg
          exact (hsame j hoA n1 n2 (nin (by omega))).trans (by (repeat (first | exact (hH1.get j hj).trans hg | (refine (yR _ _ ?_).trans ?_; (· exact hoA)) | (refine (yS _ _ ?_).trans ?_; (· exact hoA)) | (refine (yT _ ?_).trans ?_; (· exact hoA)))))⟩
        have hpc := pc_lt (pl := false) (by omega : 0 < b.length) hi
        have hpf := pf_lt (C := b.length) (pl := false) hi
        have hbl := (hbr b[pc b.length b[0].length false i] (List.getElem_mem _)).1
        have hfi : pf b.length b[0].length false i < b[pc b.length b[0].length false i].length := by omega
        have hx := (hbr b[pc b.length b[0].length false i] (List.getElem_mem _)).2.2 _ (List.getElem_mem hfi)
        have hA : b[pc b.length b[0].length false i][pf b.length b[0].length false i] - (dE e sh b R E i).getD (pc b.length b[0].length false i) 0 = dA e sh b R E i := by
          rw [dA_eq, hfr, at2_eq hpc hfi]
        have hEg := okE_get (dE_ok (e := e) (sh := sh) (b := b) (R := R) hE i) (pc b.length b[0].length false i)
        have hAr : -9223372036854775808 ≤ dA e sh b R E i ∧ dA e sh b R E i ≤ 9223372036854775807 := by rw [← hA]; omega
        have hAb : -8454143 ≤ dA e sh b R E i ∧ dA e sh b R E i ≤ 8454143 := by rw [← hA]; omega
        have hcE : pc b.length b[0].length false i < (dE e sh b R E i).length := by rw [dE_len]; omega
        have hmod := mod_bd e (nxt_bd (dR_bd hR i))
        have hLe := dL_eq e sh b R E i
        have hLv : max (0 - maxF e) (min (maxF e) (rnd (dA e sh b R E i + ((nxt (dR R i)).tmod (unitF e) - (unitF e).tdiv 2)) (unitF e))) = dLm e sh b R E (pc b.length b[0].length false i) (pf b.length b[0].length false i) := by rw [dLm_eq, hfr, idx_place, hLe]
        have hLb := dL_bd e sh b R E i
        have hml := mul_bdd (A := 32767) (B := 65536) (a := dL e sh b R E i) (x := unitF e) (by omega) (by omega)
        have e1 : (if idx false b.length b[0].length (pc b.length b[0].length false i) (pf b.length b[0].length false i) < i + 1 then dLm e sh b R E (pc b.length b[0].length false i) (pf b.length b[0].length false i) else 0) = dL e sh b R E i := by
          rw [idx_place, if_pos (by omega), dLm_eq, hfr, idx_place]
        have ndr : d ∉ rs := nin (by omega)
        have nor : o ∉ rs := nin (by omega)
        refine callS_round tt_ok ?_
        cases sh with
        | false =>
          repeat' ((conv => whnf); first | (refine next2_c (dR_bd hR i) hoA hgA (fun H2 hz2 hsm2 gd3 => ?_)); (have hz2 : H2.size = H1.size + 5 := by rw [hz2, AHeap.set_size]; exact hsz'); (have gD3 : H2.get H.size = some (.cells [.pointer (some ⟨d, 0, none⟩)] true 0) := (hsm2 _ (by omega)).trans hgA); (have gB3 : H2.get (H.size + 1) = some (.cells [.slice (some ⟨i0, off, none⟩) b.length c] true 0) := (hsm2 _ (by omega)).trans hgA); (have gk3 : H2.get kc = some (.cells [.iface ct cx] true 0) := (hsm2 _ (by omega)).trans hgA); (have gs3 : H2.get (HH.size) = some (.cells [iv (unitF e)] true 0) := (hsm2 _ (by omega)).trans hgA); (have gL3 : H2.get tc = some (.cells [.slice (some ⟨o2, 0, none⟩) b.length b.length] true 0) := (hsm2 _ (by omega)).trans hgA); (have go3 := (hsm2 o (by omega)).trans ((AHeap.set_ne _ _ (by omega)).trans go2)); (have hk2 : Kp H H2 := ⟨by have := hkH.size; omega, fun j c2 sz hj hg => (hsm2 j (hnd j c2 sz hg).1).trans ((AHeap.set_ne _ _ (by omega)).trans (hkH.get j c2 sz hj hg))⟩); (have gl3 : H2.get (H1.size + 4) = some (.loop _) := (hsm2 _ (by omega)).trans hgA); (have hom2 := homi.of_get (H' := H2) (by omega) (fun j hj hjm => (hsm2 j (by have := hoj j hjm; omega)).trans (AHeap.set_ne _ _ (by have := hoj j hjm; omega)))) | refine loadK_ints go3 hcE ?_ | refine intK_eq hA hAr ?_ | refine hom2.row hpc ?_ | (apply rounded_c; (· omega); (· omega)) | refine bits_w hcod he hbb ?_ | refine top_c he hbb ?_ | (apply bounded_c; (· omega)) | refine hom2.put2 hpc hpf (fun c f => if idx false b.length b[0].length c f < i + 1 then dLm e false b R E c f else 0) (fun c hc f hf => fill_idx (g := dLm e false b R E) hLv hi c f hc hf) (fun H3 hom3 hkp3 => ?_); (have hz3 := hkp3.size); (have gD4 := (hkp3.get _ (nin (by omega))).trans gD3); (have gs4 := (hkp3.get _ (nin (by omega))).trans gs3); (have gL4 := (hkp3.get _ htcr).trans gL3); (have gd4 := (hkp3.get _ ndr).trans gd3); (have go4 := (hkp3.get _ nor).trans go3); (have gl4 := (hkp3.get _ (nin (by omega))).trans gl3) | ((first | (apply vB; (case h => with_reducible assumption)) | (apply vA; (case h => with_reducible assumption)) | (apply vC; (case h => with_reducible assumption)) | (apply vD; (case h => with_reducible assumption))); (case hk => exact kpA); (case he => omega)) | ((first | (apply vI; (case h => with_reducible assumption)) | (apply vG; (case h => with_reducible assumption)) | (apply vK; (case h => with_reducible assumption))); (case hk => exact kpA); (case he => omega); (case hp => omega); (case' g => intro hr_ hc_)) | ((first | (apply vJ; (case h => with_reducible assumption)) | (apply vH; (case h => with_reducible assumption)) | (apply vL; (case h => with_reducible assumption))); (case hk => exact kpA); (case he => omega); (case' g => intro hr_ hc_)) | (apply drawS_auto mixed tt_ok; (· kernel_rfl)) | apply zZ | apply yA | apply yB | ((first | apply zA | apply zC | apply zE | apply zG); (· with_reducible assumption)) | ((first | apply zB | apply zD | apply zF | apply zH); (· with_reducible assumption)) | apply zM | apply zN | apply zO | apply zP | apply zQ | apply zR | apply zS | apply zT | apply zU | (apply zV; (· omega)) | (apply zW; (· omega)) | (apply zX; (· (first | omega | (dsimp only; omega)))) | (apply zY; (try (apply zY; apply zX; (· omega))); apply zX; (· omega); apply zX; (· (first | omega | (dsimp only; omega)))) | ((first | apply yJ | apply yK | apply yL | apply yM | apply yN | apply yO); (· exact hgA); (· exact hsA)) | (apply yNP; (· exact hgA); (· exact hsA)) | ((first | apply zA | apply zC | apply zE | apply zG); (· omega)) | ((first | apply zB | apply zD | apply zF | apply zH); (· omega)) | ((first | apply zI | apply zK); (· with_reducible assumption)) | ((first | apply zJ | apply zL); (· with_reducible assumption)) | ((first | apply xA | apply xC | apply xE | apply xG); (· first | assumption | rfl)) | ((first | apply xB | apply xD | apply xF | apply xH); (· first | assumption | kernel_rfl)) | fail)
          conv => whnf
          refine hK _ ⟨by rw [AHeap.set_size]; omega, fun j hj n1 n2 n3 => ?_, ?_, ?_, ?_⟩
          · by_cases hl : j = H1.size + 4
            · subst hl
              exact (AHeap.set_same _ _ _).trans (Eq.symm hgA)
            · exact (AHeap.set_ne _ _ hl).trans ((hkp3.get j n3).trans ((hsm2 j n1).trans ((AHeap.set_ne _ _ hl).trans (hsame j hj n1 n2 n3))))
          · rw [dR_s]
            exact (AHeap.set_ne _ _ (by omega)).trans gd4
          · rw [dE_f]
            exact (AHeap.set_ne _ _ (by omega)).trans go4
          · exact hom3.of_get (by rw [AHeap.set_size]; omega) (fun j hj hjm => AHeap.set_ne _ _ (by have := hoj j hjm; omega))
        | true =>
          have hdE : dE e true b R E (i + 1) = (dE e true b R E i).set (pc b.length b[0].length false i) (max (0 - unitF e) (min (unitF e) (dL e true b R E i * unitF e - dA e true b R E i))) := by rw [dE_t, hfr, dstepE_eq]
          repeat' ((conv => whnf); first | (refine next2_c (dR_bd hR i) hoA hgA (fun H2 hz2 hsm2 gd3 => ?_)); (have hz2 : H2.size = H1.size + 5 := by rw [hz2, AHeap.set_size]; exact hsz'); (have gD3 : H2.get H.size = some (.cells [.pointer (some ⟨d, 0, none⟩)] true 0) := (hsm2 _ (by omega)).trans hgA); (have gB3 : H2.get (H.size + 1) = some (.cells [.slice (some ⟨i0, off, none⟩) b.length c] true 0) := (hsm2 _ (by omega)).trans hgA); (have gk3 : H2.get kc = some (.cells [.iface ct cx] true 0) := (hsm2 _ (by omega)).trans hgA); (have gs3 : H2.get (HH.size) = some (.cells [iv (unitF e)] true 0) := (hsm2 _ (by omega)).trans hgA); (have gL3 : H2.get tc = some (.cells [.slice (some ⟨o2, 0, none⟩) b.length b.length] true 0) := (hsm2 _ (by omega)).trans hgA); (have go3 := (hsm2 o (by omega)).trans ((AHeap.set_ne _ _ (by omega)).trans go2)); (have hk2 : Kp H H2 := ⟨by have := hkH.size; omega, fun j c2 sz hj hg => (hsm2 j (hnd j c2 sz hg).1).trans ((AHeap.set_ne _ _ (by omega)).trans (hkH.get j c2 sz hj hg))⟩); (have gl3 : H2.get (H1.size + 4) = some (.loop _) := (hsm2 _ (by omega)).trans hgA); (have hom2 := homi.of_get (H' := H2) (by omega) (fun j hj hjm => (hsm2 j (by have := hoj j hjm; omega)).trans (AHeap.set_ne _ _ (by have := hoj j hjm; omega)))) | refine loadK_ints go3 hcE ?_ | refine intK_eq hA hAr ?_ | refine hom2.row hpc ?_ | (apply rounded_c; (· omega); (· omega)) | refine bits_w hcod he hbb ?_ | refine top_c he hbb ?_ | (apply bounded_c; (· omega)) | refine hom2.put2 hpc hpf (fun c f => if idx false b.length b[0].length c f < i + 1 then dLm e true b R E c f else 0) (fun c hc f hf => fill_idx (g := dLm e true b R E) hLv hi c f hc hf) (fun H3 hom3 hkp3 => ?_); (have hz3 := hkp3.size); (have gD4 := (hkp3.get _ (nin (by omega))).trans gD3); (have gs4 := (hkp3.get _ (nin (by omega))).trans gs3); (have gL4 := (hkp3.get _ htcr).trans gL3); (have gd4 := (hkp3.get _ ndr).trans gd3); (have go4 := (hkp3.get _ nor).trans go3); (have gl4 := (hkp3.get _ (nin (by omega))).trans gl3) | refine hom3.row hpc ?_ | refine hom3.at hpc hpf ?_; rw [e1] | refine storeK_ints go4 hcE ?_ | ((first | (apply vB; (case h => with_reducible assumption)) | (apply vA; (case h => with_reducible assumption)) | (apply vC; (case h => with_reducible assumption)) | (apply vD; (case h => with_reducible assumption))); (case hk => exact kpA); (case he => omega)) | ((first | (apply vI; (case h => with_reducible assumption)) | (apply vG; (case h => with_reducible assumption)) | (apply vK; (case h => with_reducible assumption))); (case hk => exact kpA); (case he => omega); (case hp => omega); (case' g => intro hr_ hc_)) | ((first | (apply vJ; (case h => with_reducible assumption)) | (apply vH; (case h => with_reducible assumption)) | (apply vL; (case h => with_reducible assumption))); (case hk => exact kpA); (case he => omega); (case' g => intro hr_ hc_)) | (apply drawS_auto mixed tt_ok; (· kernel_rfl)) | apply zZ | apply yA | apply yB | ((first | apply zA | apply zC | apply zE | apply zG); (· with_reducible assumption)) | ((first | apply zB | apply zD | apply zF | apply zH); (· with_reducible assumption)) | apply zM | apply zN | apply zO | apply zP | apply zQ | apply zR | apply zS | apply zT | apply zU | (apply zV; (· omega)) | (apply zW; (· omega)) | (apply zX; (· (first | omega | (dsimp only; omega)))) | (apply zY; (try (apply zY; apply zX; (· omega))); apply zX; (· omega); apply zX; (· (first | omega | (dsimp only; omega)))) | ((first | apply yJ | apply yK | apply yL | apply yM | apply yN | apply yO); (· exact hgA); (· exact hsA)) | (apply yNP; (· exact hgA); (· exact hsA)) | ((first | apply zA | apply zC | apply zE | apply zG); (· omega)) | ((first | apply zB | apply zD | apply zF | apply zH); (· omega)) | ((first | apply zI | apply zK); (· with_reducible assumption)) | ((first | apply zJ | apply zL); (· with_reducible assumption)) | ((first | apply xA | apply xC | apply xE | apply xG); (· first | assumption | rfl)) | ((first | apply xB | apply xD | apply xF | apply xH); (· first | assumption | kernel_rfl)) | fail)
          conv => whnf
          refine hK _ ⟨by rw [AHeap.set_size, AHeap.set_size]; omega, fun j hj n1 n2 n3 => ?_, ?_, ?_, ?_⟩
          · by_cases hl : j = H1.size + 4
            · subst hl
              exact (AHeap.set_same _ _ _).trans (Eq.symm hgA)
            · exact (AHeap.set_ne _ _ hl).trans ((AHeap.set_ne _ _ n2).trans ((hkp3.get j n3).trans ((hsm2 j n1).trans ((AHeap.set_ne _ _ hl).trans (hsame j hj n1 n2 n3)))))
          · rw [dR_s]
            exact (AHeap.set_ne _ _ (by omega)).trans ((AHeap.set_ne _ _ hne).trans gd4)
          · rw [hdE]
            exact (AHeap.set_ne _ _ (by omega)).trans (AHeap.set_same _ _ _)
          · exact hom3.of_get (by rw [AHeap.set_size, AHeap.set_size]; omega) (fun j hj hjm => (AHeap.set_ne _ _ (by have := hoj j hjm; omega)).trans (AHeap.set_ne _ _ (by have := hoj j hjm; omega)))
      · rintro HY ⟨hsz, hsame, gd3, go3, homi⟩
        have hsz' : HY.size = H1.size + 5 := hsz
        have gl : HY.get (H1.size + 4) = some (.loop _) := (hsame (H1.size + 4) hoA (by omega) (by omega) (nin (by omega))).trans hgA
        have gdf : HY.get (H1.size + 3) = some (.deferred []) := (hsame (H1.size + 3) hoA (by omega) (by omega) (nin (by omega))).trans hgA
        have gB : HY.get (H.size + 1) = some (.cells [.slice (some ⟨i0, off, none⟩) b.length c] true 0) := (hsame (H.size + 1) hoA (by omega) (by omega) (nin (by omega))).trans hgA
        have gk : HY.get kc = some (.cells [.iface ct cx] true 0) := (hsame kc hoA (by omega) (by omega) (nin (by omega))).trans hgA
        have gL : HY.get tc = some (.cells [.slice (some ⟨o2, 0, none⟩) b.length b.length] true 0) := (hsame tc hoA (by omega) (by omega) htcr).trans hgA
        have hkH : Kp H HY := ⟨by have := hH1.size; omega, fun j c2 sz hj hg => by
          obtain ⟨n1, n2⟩ := hnd j c2 sz hg
          exact (hsame j hoA n1 n2 (nin (by omega))).trans (by (repeat (first | exact (hH1.get j hj).trans hg | (refine (yR _ _ ?_).trans ?_; (· exact hoA)) | (refine (yS _ _ ?_).trans ?_; (· exact hoA)) | (refine (yT _ ?_).trans ?_; (· exact hoA)))))⟩
        have hom3 := homi.cast (dLm e sh b R E) (fun c hc f hf => by rw [if_pos (idx_lt hc hf)])
        have hMl : (dM e sh b R E).length = b.length := by unfold dM; rw [matF_len]
        have hMf : framesB (dM e sh b R E) = b[0].length := by rw [frames0 (by omega), ← hfr]; unfold dM; rw [matF_get, rowF_len]
        have hdS : dithS e sh pl b R E = bstr (encM e pl (dM e sh b R E) (b.length * b[0].length)) := by unfold dithS; rw [if_pos h0, hfr]
        have hdR : dithR b R E = dR R (b.length * b[0].length) := by unfold dithR; rw [if_pos h0, hfr]
        have hdE : dithE e sh b R E = dE e sh b R E (b.length * b[0].length) := by unfold dithE; rw [if_pos h0, hfr]
        rw [hdS, hdR, hdE] at h
        have hoy : ∀ j, j = o2 ∨ j ∈ rs → j < HY.size := fun j hj => by have := hoj j hj; omega
        repeat' ((conv => whnf); first | (refine callS_walk tt_ok Try.func60 rfl (by kernel_rfl) ?_) | ((first | (apply vB; (case h => with_reducible assumption)) | (apply vA; (case h => with_reducible assumption)) | (apply vC; (case h => with_reducible assumption)) | (apply vD; (case h => with_reducible assumption))); (case hk => exact kpA); (case he => omega)) | ((first | (apply vI; (case h => with_reducible assumption)) | (apply vG; (case h => with_reducible assumption)) | (apply vK; (case h => with_reducible assumption))); (case hk => exact kpA); (case he => omega); (case hp => omega); (case' g => intro hr_ hc_)) | ((first | (apply vJ; (case h => with_reducible assumption)) | (apply vH; (case h => with_reducible assumption)) | (apply vL; (case h => with_reducible assumption))); (case hk => exact kpA); (case he => omega); (case' g => intro hr_ hc_)) | (apply drawS_auto mixed tt_ok; (· kernel_rfl)) | apply zZ | apply yA | apply yB | ((first | apply zA | apply zC | apply zE | apply zG); (· with_reducible assumption)) | ((first | apply zB | apply zD | apply zF | apply zH); (· with_reducible assumption)) | apply zM | apply zN | apply zO | apply zP | apply zQ | apply zR | apply zS | apply zT | apply zU | (apply zV; (· omega)) | (apply zW; (· omega)) | (apply zX; (· (first | omega | (dsimp only; omega)))) | (apply zY; (try (apply zY; apply zX; (· omega))); apply zX; (· omega); apply zX; (· (first | omega | (dsimp only; omega)))) | ((first | apply yJ | apply yK | apply yL | apply yM | apply yN | apply yO); (· exact hgA); (· exact hsA)) | (apply yNP; (· exact hgA); (· exact hsA)) | ((first | apply zA | apply zC | apply zE | apply zG); (· omega)) | ((first | apply zB | apply zD | apply zF | apply zH); (· omega)) | ((first | apply zI | apply zK); (· with_reducible assumption)) | ((first | apply zJ | apply zL); (· with_reducible assumption)) | ((first | apply xA | apply xC | apply xE | apply xG); (· first | assumption | rfl)) | ((first | apply xB | apply xD | apply xF | apply xH); (· first | assumption | kernel_rfl)) | fail)
        conv => whnf
        simp only [AHeap.push_size, AHeap.set_size, AHeap.kill_size]
        refine places_c (C := b.length) (N := b[0].length) (pl := pl) (I := fun Hb i HX => Hb.size ≤ HX.size ∧ (∀ j, j < Hb.size → j ≠ HY.size → HX.get j = Hb.get j) ∧ ∃ v, HX.get HY.size = some (.cells [v] true 0) ∧ OBy HX (HY.size + 6) v (encM e pl (dM e sh b R E) i)) ⟨hb1, hb8⟩ (by omega) ?_ ?_ ?_ ?_
        · rintro i HX ⟨hs, hsm, _⟩
          exact ⟨(hsm (HY.size + 1) hoA (by omega)).trans hgA, (hsm (HY.size + 2) hoA (by omega)).trans hgA, (hsm (HY.size + 3) hoA (by omega)).trans hgA⟩
        · exact ⟨Nat.le_refl _, fun _ _ _ => rfl, _, hgA, .inl ⟨rfl, by rw [encM_0]⟩⟩
        · rintro i HX K1 hi ⟨hs, hsm, v, gv, hov⟩ hK
          have hs' : HY.size + 6 ≤ HX.size := hs
          have glX : HX.get (HY.size + 5) = some (.loop _) := (hsm (HY.size + 5) hoA (by omega)).trans hgA
          have gkX : HX.get kc = some (.cells [.iface ct cx] true 0) := (hsm kc hoA (by omega)).trans hgA
          have gLX : HX.get tc = some (.cells [.slice (some ⟨o2, 0, none⟩) b.length b.length] true 0) := (hsm tc hoA (by omega)).trans hgA
          have hbk : ∀ j, j < H1.size + 4 → HX.get j = HY.get j := fun j hj => (hsm j hoA (by omega)).trans (by (repeat (first | exact rfl | (refine (yR _ _ ?_).trans ?_; (· exact hoA)) | (refine (yS _ _ ?_).trans ?_; (· exact hoA)) | (refine (yT _ ?_).trans ?_; (· exact hoA)))))
          have homX := hom3.of_get (H' := HX) (by omega) (fun j hj hjm => hbk j (by have := hoj j hjm; omega))
          have hpc := pc_lt (pl := pl) (by omega : 0 < b.length) hi
          have hpf := pf_lt (C := b.length) (pl := pl) hi
          have hen := encM_succ e pl (dM e sh b R E) i
          have hlen := encM_len e pl (dM e sh b R E) i
          have hmul : b.length * b[0].length ≤ 8 * 4096 := Nat.mul_le_mul hb8 hL4
          rw [hMl, hMf] at hen
          have hMat : at2 (dM e sh b R E) (pc b.length b[0].length pl i) (pf b.length b[0].length pl i) = dLm e sh b R E (pc b.length b[0].length pl i) (pf b.length b[0].length pl i) := by unfold dM; rw [hfr]; exact at2_matF hpc hpf
          rw [hMat] at hen
          have hLb : 0 - maxF e ≤ dLm e sh b R E (pc b.length b[0].length pl i) (pf b.length b[0].length pl i) ∧ dLm e sh b R E (pc b.length b[0].length pl i) (pf b.length b[0].length pl i) ≤ maxF e := by rw [dLm_eq]; exact dL_bd _ _ _ _ _ _
          have hne0 := hov.ne (i := HY.size) (by omega)
          have hne5 := hov.ne (i := HY.size + 5) (by omega)
          refine callS_round tt_ok ?_
          repeat' ((conv => whnf); first | refine (homX.of_get hoA (fun j hj hjm => AHeap.set_ne _ _ (by have := hoj j hjm; omega))).row hpc ?_ | refine (homX.of_get hoA (fun j hj hjm => AHeap.set_ne _ _ (by have := hoj j hjm; omega))).at hpc hpf ?_ | refine put_ms he hcod ?_ | (refine put_v (base := HY.size + 6) hcod he ?_ ?_ ?_ ?_ (hov.of_get hoA (fun i h1 h2 => AHeap.set_ne _ _ hoA)) (fun H2 v2 ho hk hov2 => ?_); (· omega); (· omega); (· omega); (· exact hoA); (have gv2 : H2.get HY.size = some (.cells [v] true 0) := (ho.get _ hoA hne0).trans hgA); (have gl2 := (ho.get (HY.size + 5) hoA hne5).trans hgA); (have hz2 : HX.size ≤ H2.size := ho.size); (obtain ⟨p2, n2, c2, e2⟩ := hov2.slice); (subst e2)) | ((first | (apply vB; (case h => with_reducible assumption)) | (apply vA; (case h => with_reducible assumption)) | (apply vC; (case h => with_reducible assumption)) | (apply vD; (case h => with_reducible assumption))); (case hk => exact kpA); (case he => omega)) | ((first | (apply vI; (case h => with_reducible assumption)) | (apply vG; (case h => with_reducible assumption)) | (apply vK; (case h => with_reducible assumption))); (case hk => exact kpA); (case he => omega); (case hp => omega); (case' g => intro hr_ hc_)) | ((first | (apply vJ; (case h => with_reducible assumption)) | (apply vH; (case h => with_reducible assumption)) | (apply vL; (case h => with_reducible assumption))); (case hk => exact kpA); (case he => omega); (case' g => intro hr_ hc_)) | (apply drawS_auto mixed tt_ok; (· kernel_rfl)) | apply zZ | apply yA | apply yB | ((first | apply zA | apply zC | apply zE | apply zG); (· with_reducible assumption)) | ((first | apply zB | apply zD | apply zF | apply zH); (· with_reducible assumption)) | apply zM | apply zN | apply zO | apply zP | apply zQ | apply zR | apply zS | apply zT | apply zU | (apply zV; (· omega)) | (apply zW; (· omega)) | (apply zX; (· (first | omega | (dsimp only; omega)))) | (apply zY; (try (apply zY; apply zX; (· omega))); apply zX; (· omega); apply zX; (· (first | omega | (dsimp only; omega)))) | ((first | apply yJ | apply yK | apply yL | apply yM | apply yN | apply yO); (· exact hgA); (· exact hsA)) | (apply yNP; (· exact hgA); (· exact hsA)) | ((first | apply zA | apply zC | apply zE | apply zG); (· omega)) | ((first | apply zB | apply zD | apply zF | apply zH); (· omega)) | ((first | apply zI | apply zK); (· with_reducible assumption)) | ((first | apply zJ | apply zL); (· with_reducible assumption)) | ((first | apply xA | apply xC | apply xE | apply xG); (· first | assumption | rfl)) | ((first | apply xB | apply xD | apply xF | apply xH); (· first | assumption | kernel_rfl)) | fail)
          conv => whnf
          refine hK _ ⟨hoA, fun j hj hj3 => ?_, _, hgA, ?_⟩
          · have hj2 : j < HY.size + 6 := hj
            by_cases hl : j = HY.size + 5
            · subst hl
              exact Eq.trans hgA (Eq.symm hgA)
            · (repeat (first | exact ((ho.get j hoA (hov.ne (by omega))).trans ((AHeap.set_ne _ _ hoA).trans (hsm j hj hj3))) | (refine (yR _ _ ?_).trans ?_; (· exact hoA)) | (refine (yS _ _ ?_).trans ?_; (· exact hoA)) | (refine (yT _ ?_).trans ?_; (· exact hoA))))
          · rw [hen]
            exact hov2.of_get hoA (fun j h1 h2 => (by (repeat (first | exact rfl | (refine (yR _ _ ?_).trans ?_; (· exact hoA)) | (refine (yS _ _ ?_).trans ?_; (· exact hoA)) | (refine (yT _ ?_).trans ?_; (· exact hoA))))))
        · rintro HX ⟨hs, hsm, v, gv, hov⟩
          have hs' : HY.size + 6 ≤ HX.size := hs
          have glX : HX.get (HY.size + 5) = some (.loop _) := (hsm (HY.size + 5) hoA (by omega)).trans hgA
          have gdX : HX.get (HY.size + 4) = some (.deferred []) := (hsm (HY.size + 4) hoA (by omega)).trans hgA
          have hbk : ∀ j, j < H1.size + 4 → HX.get j = HY.get j := fun j hj => (hsm j hoA (by omega)).trans (by (repeat (first | exact rfl | (refine (yR _ _ ?_).trans ?_; (· exact hoA)) | (refine (yS _ _ ?_).trans ?_; (· exact hoA)) | (refine (yT _ ?_).trans ?_; (· exact hoA)))))
          have hbk2 : ∀ j, j < H.size → j ≠ d → j ≠ o → HY.get j = H.get j := fun j hj n1 n2 => (hsame j hoA n1 n2 (nin (by omega))).trans (by (repeat (first | exact hH1.get j hj | (refine (yR _ _ ?_).trans ?_; (· exact hoA)) | (refine (yS _ _ ?_).trans ?_; (· exact hoA)) | (refine (yT _ ?_).trans ?_; (· exact hoA)))))
          have gdX1 : HX.get (H1.size + 3) = some (.deferred []) := (hbk _ (by omega)).trans gdf
          have hgd := (hbk d (by omega)).trans gd3
          have hgo := (hbk o (by omega)).trans go3
          rcases hov with ⟨rfl, hn0⟩ | ⟨ob, rfl, hoo, ho1, ho2⟩
          · rw [hn0, bstr_nil0] at h
            repeat' ((conv => whnf); first | ((first | (apply vB; (case h => with_reducible assumption)) | (apply vA; (case h => with_reducible assumption)) | (apply vC; (case h => with_reducible assumption)) | (apply vD; (case h => with_reducible assumption))); (case hk => exact kpA); (case he => omega)) | ((first | (apply vI; (case h => with_reducible assumption)) | (apply vG; (case h => with_reducible assumption)) | (apply vK; (case h => with_reducible assumption))); (case hk => exact kpA); (case he => omega); (case hp => omega); (case' g => intro hr_ hc_)) | ((first | (apply vJ; (case h => with_reducible assumption)) | (apply vH; (case h => with_reducible assumption)) | (apply vL; (case h => with_reducible assumption))); (case hk => exact kpA); (case he => omega); (case' g => intro hr_ hc_)) | (apply drawS_auto mixed tt_ok; (· kernel_rfl)) | apply zZ | apply yA | apply yB | ((first | apply zA | apply zC | apply zE | apply zG); (· with_reducible assumption)) | ((first | apply zB | apply zD | apply zF | apply zH); (· with_reducible assumption)) | apply zM | apply zN | apply zO | apply zP | apply zQ | apply zR | apply zS | apply zT | apply zU | (apply zV; (· omega)) | (apply zW; (· omega)) | (apply zX; (· (first | omega | (dsimp only; omega)))) | (apply zY; (try (apply zY; apply zX; (· omega))); apply zX; (· omega); apply zX; (· (first | omega | (dsimp only; omega)))) | ((first | apply yJ | apply yK | apply yL | apply yM | apply yN | apply yO); (· exact hgA); (· exact hsA)) | (apply yNP; (· exact hgA); (· exact hsA)) | ((first | apply zA | apply zC | apply zE | apply zG); (· omega)) | ((first | apply zB | apply zD | apply zF | apply zH); (· omega)) | ((first | apply zI | apply zK); (· with_reducible assumption)) | ((first | apply zJ | apply zL); (· with_reducible assumption)) | ((first | apply xA | apply xC | apply xE | apply xG); (· first | assumption | rfl)) | ((first | apply xB | apply xD | apply xF | apply xH); (· first | assumption | kernel_rfl)) | fail)
            conv => whnf
            refine h _ ?_ ?_ ⟨hne, ?_, ?_, ?_, ?_⟩
            · rw [AHeap.kill_size, AHeap.kill_size, AHeap.kill_size]; omega
            · exact fun j hj n1 n2 => (AHeap.kill_ne _ (by omega)).trans ((AHeap.kill_ne _ (by omega)).trans ((AHeap.kill_ne _ (by omega)).trans ((hbk j (by omega)).trans (hbk2 j hj n1 n2))))
            · rw [AHeap.kill_size, AHeap.kill_size, AHeap.kill_size]; omega
            · rw [AHeap.kill_size, AHeap.kill_size, AHeap.kill_size]; omega
            · rw [dE_len]
              exact (AHeap.kill_ne _ (by omega)).trans ((AHeap.kill_ne _ (by omega)).trans ((AHeap.kill_ne _ (by omega)).trans hgd))
            · exact (AHeap.kill_ne _ (by omega)).trans ((AHeap.kill_ne _ (by omega)).trans ((AHeap.kill_ne _ (by omega)).trans hgo))
          · rw [bstr_def0] at h
            repeat' ((conv => whnf); first | rw [List.drop_zero, List.take_of_length_le (by simp), allU8_map] | ((first | (apply vB; (case h => with_reducible assumption)) | (apply vA; (case h => with_reducible assumption)) | (apply vC; (case h => with_reducible assumption)) | (apply vD; (case h => with_reducible assumption))); (case hk => exact kpA); (case he => omega)) | ((first | (apply vI; (case h => with_reducible assumption)) | (apply vG; (case h => with_reducible assumption)) | (apply vK; (case h => with_reducible assumption))); (case hk => exact kpA); (case he => omega); (case hp => omega); (case' g => intro hr_ hc_)) | ((first | (apply vJ; (case h => with_reducible assumption)) | (apply vH; (case h => with_reducible assumption)) | (apply vL; (case h => with_reducible assumption))); (case hk => exact kpA); (case he => omega); (case' g => intro hr_ hc_)) | (apply drawS_auto mixed tt_ok; (· kernel_rfl)) | apply zZ | apply yA | apply yB | ((first | apply zA | apply zC | apply zE | apply zG); (· with_reducible assumption)) | ((first | apply zB | apply zD | apply zF | apply zH); (· with_reducible assumption)) | apply zM | apply zN | apply zO | apply zP | apply zQ | apply zR | apply zS | apply zT | apply zU | (apply zV; (· omega)) | (apply zW; (· omega)) | (apply zX; (· (first | omega | (dsimp only; omega)))) | (apply zY; (try (apply zY; apply zX; (· omega))); apply zX; (· omega); apply zX; (· (first | omega | (dsimp only; omega)))) | ((first | apply yJ | apply yK | apply yL | apply yM | apply yN | apply yO); (· exact hgA); (· exact hsA)) | (apply yNP; (· exact hgA); (· exact hsA)) | ((first | apply zA | apply zC | apply zE | apply zG); (· omega)) | ((first | apply zB | apply zD | apply zF | apply zH); (· omega)) | ((first | apply zI | apply zK); (· with_reducible assumption)) | ((first | apply zJ | apply zL); (· with_reducible assumption)) | ((first | apply xA | apply xC | apply xE | apply xG); (· first | assumption | rfl)) | ((first | apply xB | apply xD | apply xF | apply xH); (· first | assumption | kernel_rfl)) | fail)
            conv => whnf
            refine h _ ?_ ?_ ⟨hne, ?_, ?_, ?_, ?_⟩
            · rw [AHeap.kill_size, AHeap.kill_size, AHeap.kill_size]; omega
            · exact fun j hj n1 n2 => (AHeap.kill_ne _ (by omega)).trans ((AHeap.kill_ne _ (by omega)).trans ((AHeap.kill_ne _ (by omega)).trans ((hbk j (by omega)).trans (hbk2 j hj n1 n2))))
            · rw [AHeap.kill_size, AHeap.kill_size, AHeap.kill_size]; omega
            · rw [AHeap.kill_size, AHeap.kill_size, AHeap.kill_size]; omega
            · rw [dE_len]
              exact (AHeap.kill_ne _ (by omega)).trans ((AHeap.kill_ne _ (by omega)).trans ((AHeap.kill_ne _ (by omega)).trans hgd))
            · exact (AHeap.kill_ne _ (by omega)).trans ((AHeap.kill_ne _ (by omega)).trans ((AHeap.kill_ne _ (by omega)).trans hgo))
end Go.Abs
