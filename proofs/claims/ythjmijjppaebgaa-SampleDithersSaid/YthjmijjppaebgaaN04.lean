/- Contracts of the reference's dither. -/
import Derived.Test.YthjmijjppaebgaaH04
set_option linter.all false
set_option maxHeartbeats 2000000
set_option maxRecDepth 20000
namespace Go.Abs
open Go Go.Proofs

theorem row0 {H : AHeap} {base n : Nat} (hn : (n : Int) ≤ 8) (hg : H.get (base + 1) = some (.cells ((List.replicate n (0 : Int)).map (Value.int .i64)) true 1)) (hs : base + 1 < H.size) : Row (H.fz base) (some ⟨base + 1, 0, none⟩) (List.replicate n 0) := by
  obtain ⟨a, ha, hr⟩ := ORowV.fz (H := H) (base := base) (b := base) (xs := List.replicate n 0) (.inr ⟨base + 1, rfl, hg, by omega, hs⟩) (Nat.le_refl _) (by rw [List.length_replicate]; unfold maxN; omega) (fun x hx => by rw [List.eq_of_mem_replicate hx]; unfold inR; omega)
  cases ha
  exact hr
theorem refNew_ok {e seed : Int} {n : Nat} {sh : Bool} {H : AHeap} {K : CK} (h0 : newE e seed n = 0)
    (h : ∀ H' p c, H.le H' → Row H' p (List.replicate n 0) → K (.returned (.tuple #[.agg #[iv e, iv n, .bool sh, iv seed, .slice p n c], iv 0])) H') : callS P (fnV 30) [iv e, iv seed, iv n, .bool sh] H K := by
  unfold newE at h0
  by_cases hc : enc e ∧ (1 ≤ (n : Int) ∧ (n : Int) ≤ 8) ∧ (1 ≤ seed ∧ seed ≤ 2147483647)
  · rw [if_pos hc] at h0
    obtain ⟨he, hC, hS⟩ := hc
    have h4 : e ≤ 4 := by
      by_cases h4 : e ≤ 4
      · exact h4
      · rw [if_neg h4] at h0; omega
    obtain ⟨b, hb⟩ : ∃ b, bitsF e = b := ⟨_, rfl⟩
    have hb16 : b ≤ 16 := by rw [← hb]; unfold bitsF; omega
    refine callS_post ?_
    refine callS_walk tt_ok Try.func30 rfl (by kernel_rfl) ?_
    conv => whnf
    repeat' ((conv => whnf); first | refine refBits_v he hb ?_ | refine chan_t hC ?_ | (apply drawS_auto mixed tt_ok; (· kernel_rfl)) | apply zZ | apply yA | apply yB | ((first | apply zA | apply zC | apply zE | apply zG); (· with_reducible assumption)) | ((first | apply zB | apply zD | apply zF | apply zH); (· with_reducible assumption)) | apply zM | apply zN | apply zO | apply zP | apply zQ | apply zR | apply zS | apply zT | apply zU | (apply zV; (· omega)) | (apply zW; (· omega)) | (apply zX; (· (first | omega | (dsimp only; omega)))) | (apply zY; (try (apply zY; apply zX; (· omega))); apply zX; (· omega); apply zX; (· (first | omega | (dsimp only; omega)))) | ((first | apply yJ | apply yK | apply yL | apply yM | apply yN | apply yO); (· exact hgA); (· exact hsA)) | (apply yNP; (· exact hgA); (· exact hsA)) | ((first | apply zA | apply zC | apply zE | apply zG); (· omega)) | ((first | apply zB | apply zD | apply zF | apply zH); (· omega)) | ((first | apply zI | apply zK); (· with_reducible assumption)) | ((first | apply zJ | apply zL); (· with_reducible assumption)) | fail)
    conv => whnf
    rw [Int.toNat_natCast]
    refine ⟨_, HW.fz _ H.size, h _ (some ⟨H.size + 1, 0, none⟩) n (AHeap.le.fz leA (Nat.le_refl _)) ?_⟩
    refine row0 hC.2 ((AHeap.set_ne _ _ (by omega)).trans ((AHeap.push_at _ _ (by rw [AHeap.push_size])).trans (congrArg (fun z => some (AObj.cells z true 1)) (zeroRow_rep n)))) (by rw [AHeap.set_size, AHeap.push_size, AHeap.push_size]; omega)
  · rw [if_neg hc] at h0; omega
theorem refNew_no {e seed C : Int} {sh : Bool} {H : AHeap} {K : CK} (h0 : newE e seed C ≠ 0)
    (h : ∀ H', H.le H' → K (.returned (.tuple #[.agg #[iv 0, iv 0, .bool false, iv 0, .slice none 0 0], iv (newE e seed C)])) H') : callS P (fnV 30) [iv e, iv seed, iv C, .bool sh] H K := by
  by_cases he : enc e
  · by_cases hS : 1 ≤ seed ∧ seed ≤ 2147483647
    · by_cases hC : 1 ≤ C ∧ C ≤ 8
      · have hE : newE e seed C = if e ≤ 4 then 0 else 10 := by unfold newE; rw [if_pos ⟨he, hC, hS⟩]
        have h4 : ¬ e ≤ 4 := fun h4 => by rw [hE, if_pos h4] at h0; exact h0 rfl
        rw [hE, if_neg h4] at h
        obtain ⟨b, hb⟩ : ∃ b, bitsF e = b := ⟨_, rfl⟩
        have hb16 : 16 < b := by rw [← hb]; unfold bitsF; omega
        refine callS_walk tt_ok Try.func30 rfl (by kernel_rfl) ?_
        conv => whnf
        repeat' ((conv => whnf); first | refine refBits_v he hb ?_ | refine chan_t hC ?_ | (apply drawS_auto mixed tt_ok; (· kernel_rfl)) | apply zZ | apply yA | apply yB | ((first | apply zA | apply zC | apply zE | apply zG); (· with_reducible assumption)) | ((first | apply zB | apply zD | apply zF | apply zH); (· with_reducible assumption)) | apply zM | apply zN | apply zO | apply zP | apply zQ | apply zR | apply zS | apply zT | apply zU | (apply zV; (· omega)) | (apply zW; (· omega)) | (apply zX; (· (first | omega | (dsimp only; omega)))) | (apply zY; (try (apply zY; apply zX; (· omega))); apply zX; (· omega); apply zX; (· (first | omega | (dsimp only; omega)))) | ((first | apply yJ | apply yK | apply yL | apply yM | apply yN | apply yO); (· exact hgA); (· exact hsA)) | (apply yNP; (· exact hgA); (· exact hsA)) | ((first | apply zA | apply zC | apply zE | apply zG); (· omega)) | ((first | apply zB | apply zD | apply zF | apply zH); (· omega)) | ((first | apply zI | apply zK); (· with_reducible assumption)) | ((first | apply zJ | apply zL); (· with_reducible assumption)) | fail)
        conv => whnf
        exact h _ leA
      · have hE : newE e seed C = 7 := by unfold newE; rw [if_neg (fun hh => hC hh.2.1)]
        rw [hE] at h
        refine callS_walk tt_ok Try.func30 rfl (by kernel_rfl) ?_
        conv => whnf
        repeat' ((conv => whnf); first | refine refBits_t he ?_ | refine chan_f hC ?_ | (apply drawS_auto mixed tt_ok; (· kernel_rfl)) | apply zZ | apply yA | apply yB | ((first | apply zA | apply zC | apply zE | apply zG); (· with_reducible assumption)) | ((first | apply zB | apply zD | apply zF | apply zH); (· with_reducible assumption)) | apply zM | apply zN | apply zO | apply zP | apply zQ | apply zR | apply zS | apply zT | apply zU | (apply zV; (· omega)) | (apply zW; (· omega)) | (apply zX; (· (first | omega | (dsimp only; omega)))) | (apply zY; (try (apply zY; apply zX; (· omega))); apply zX; (· omega); apply zX; (· (first | omega | (dsimp only; omega)))) | ((first | apply yJ | apply yK | apply yL | apply yM | apply yN | apply yO); (· exact hgA); (· exact hsA)) | (apply yNP; (· exact hgA); (· exact hsA)) | ((first | apply zA | apply zC | apply zE | apply zG); (· omega)) | ((first | apply zB | apply zD | apply zF | apply zH); (· omega)) | ((first | apply zI | apply zK); (· with_reducible assumption)) | ((first | apply zJ | apply zL); (· with_reducible assumption)) | fail)
        conv => whnf
        exact h _ leA
    · have hE : newE e seed C = 7 := by unfold newE; rw [if_neg (fun hh => hS hh.2.2)]
      rw [hE] at h
      by_cases h1 : seed < 1
      · skip
        refine callS_walk tt_ok Try.func30 rfl (by kernel_rfl) ?_
        conv => whnf
        repeat' ((conv => whnf); first | refine refBits_t he ?_ | (apply drawS_auto mixed tt_ok; (· kernel_rfl)) | apply zZ | apply yA | apply yB | ((first | apply zA | apply zC | apply zE | apply zG); (· with_reducible assumption)) | ((first | apply zB | apply zD | apply zF | apply zH); (· with_reducible assumption)) | apply zM | apply zN | apply zO | apply zP | apply zQ | apply zR | apply zS | apply zT | apply zU | (apply zV; (· omega)) | (apply zW; (· omega)) | (apply zX; (· (first | omega | (dsimp only; omega)))) | (apply zY; (try (apply zY; apply zX; (· omega))); apply zX; (· omega); apply zX; (· (first | omega | (dsimp only; omega)))) | ((first | apply yJ | apply yK | apply yL | apply yM | apply yN | apply yO); (· exact hgA); (· exact hsA)) | (apply yNP; (· exact hgA); (· exact hsA)) | ((first | apply zA | apply zC | apply zE | apply zG); (· omega)) | ((first | apply zB | apply zD | apply zF | apply zH); (· omega)) | ((first | apply zI | apply zK); (· with_reducible assumption)) | ((first | apply zJ | apply zL); (· with_reducible assumption)) | fail)
        conv => whnf
        exact h _ leA
      · have h2 : 2147483647 < seed := by omega
        refine callS_walk tt_ok Try.func30 rfl (by kernel_rfl) ?_
        conv => whnf
        repeat' ((conv => whnf); first | refine refBits_t he ?_ | (apply drawS_auto mixed tt_ok; (· kernel_rfl)) | apply zZ | apply yA | apply yB | ((first | apply zA | apply zC | apply zE | apply zG); (· with_reducible assumption)) | ((first | apply zB | apply zD | apply zF | apply zH); (· with_reducible assumption)) | apply zM | apply zN | apply zO | apply zP | apply zQ | apply zR | apply zS | apply zT | apply zU | (apply zV; (· omega)) | (apply zW; (· omega)) | (apply zX; (· (first | omega | (dsimp only; omega)))) | (apply zY; (try (apply zY; apply zX; (· omega))); apply zX; (· omega); apply zX; (· (first | omega | (dsimp only; omega)))) | ((first | apply yJ | apply yK | apply yL | apply yM | apply yN | apply yO); (· exact hgA); (· exact hsA)) | (apply yNP; (· exact hgA); (· exact hsA)) | ((first | apply zA | apply zC | apply zE | apply zG); (· omega)) | ((first | apply zB | apply zD | apply zF | apply zH); (· omega)) | ((first | apply zI | apply zK); (· with_reducible assumption)) | ((first | apply zJ | apply zL); (· with_reducible assumption)) | fail)
        conv => whnf
        exact h _ leA
  · have hE : newE e seed C = 7 := by unfold newE; rw [if_neg (fun hh => he hh.1)]
    rw [hE] at h
    refine callS_walk tt_ok Try.func30 rfl (by kernel_rfl) ?_
    conv => whnf
    repeat' ((conv => whnf); first | refine refBits_f he ?_ | (apply drawS_auto mixed tt_ok; (· kernel_rfl)) | apply zZ | apply yA | apply yB | ((first | apply zA | apply zC | apply zE | apply zG); (· with_reducible assumption)) | ((first | apply zB | apply zD | apply zF | apply zH); (· with_reducible assumption)) | apply zM | apply zN | apply zO | apply zP | apply zQ | apply zR | apply zS | apply zT | apply zU | (apply zV; (· omega)) | (apply zW; (· omega)) | (apply zX; (· (first | omega | (dsimp only; omega)))) | (apply zY; (try (apply zY; apply zX; (· omega))); apply zX; (· omega); apply zX; (· (first | omega | (dsimp only; omega)))) | ((first | apply yJ | apply yK | apply yL | apply yM | apply yN | apply yO); (· exact hgA); (· exact hsA)) | (apply yNP; (· exact hgA); (· exact hsA)) | ((first | apply zA | apply zC | apply zE | apply zG); (· omega)) | ((first | apply zB | apply zD | apply zF | apply zH); (· omega)) | ((first | apply zI | apply zK); (· with_reducible assumption)) | ((first | apply zJ | apply zL); (· with_reducible assumption)) | fail)
    conv => whnf
    exact h _ leA
theorem idx_f (C N c f : Nat) : idx false C N c f = f * C + c := rfl
theorem nxt_def (R : Int) : nxt R = (R * 1103515245 + 12345).tmod 2147483648 := rfl
theorem laid_v {e : Int} {n : Nat} {pl : Bool} {p : Option Addr} {c : Nat} {m : List (List Int)} (hn : m.length = n) (he : enc e) {H : AHeap} {K : CK} (hm : Mat H p m) (hC : 1 ≤ m.length ∧ m.length ≤ 8) (hF : framesB m ≤ 4096) (hR : ∀ r ∈ m, r.length = framesB m) (hv : ∀ r ∈ m, ∀ x ∈ r, -2147483648 ≤ x ∧ x ≤ 2147483648)
    (h : K (.returned (.string (bstr (encM e pl m (m.length * framesB m))))) H) : callS P (fnV 70) [iv e, .bool pl, .slice p n c] H K := by
  subst hn; exact laid_c he hm hC hF hR hv h
attribute [local irreducible] nB idx pc pf maxF bytesAt bstr unitF dE dL dA dR dX nxt dstepL dstepE encM dLm
theorem refDEnc_c {e : Int} {sh pl : Bool} {R : Int} {E : List Int} {pE p : Option Addr} {cE c : Nat} {b : List (List Int)} {H : AHeap} {K : CK} (he : enc e) (h4 : e ≤ 4) (hR : inD R) (hE : okE E) (hP : plainE sh E) (hb : Mat H p b) (hr : Row H pE E)
    (h : ∀ H' p' c', H.le H' → Row H' p' (dithE e sh b R E) → K (.returned (.tuple #[.agg #[iv e, iv E.length, .bool sh, iv (dithR b R E), .slice p' E.length c'], .string (dithS e sh pl b R E), iv (dithC b E)])) H') :
    callS P (fnV 32) [.agg #[iv e, iv E.length, .bool sh, iv R, .slice pE E.length cE], .bool pl, .slice p b.length c] H K := by
  by_cases h0 : dithC b E = 0
  · have hv : blockB b = true := by
      cases hv : blockB b with
      | true => rfl
      | false => unfold dithC at h0; rw [hv] at h0; simp at h0
    have hl : b.length = E.length := by
      unfold dithC at h0; rw [if_pos hv] at h0
      by_cases hl : b.length = E.length
      · exact hl
      · rw [if_neg hl] at h0; omega
    obtain ⟨⟨hb1, hb8⟩, hbr⟩ := blockB_rows hv
    have hb0 : 0 < b.length := hb1
    have hfr := frames0 hb0
    have hL4 := (hbr b[0] (List.getElem_mem _)).2.1
    obtain ⟨i0, off, rfl⟩ := hb.at hb0
    obtain ⟨i1, off1, rfl⟩ := hr.at (k := 0) (by omega)
    have hu := unitF_bd e
    have hh := half_bd e
    have hmx := maxF_bd e
    have hm4 := maxF4 h4
    have hdS : dithS e sh pl b R E = bstr (encM e pl (dM e sh b R E) (b.length * b[0].length)) := by unfold dithS; rw [if_pos h0, hfr]
    have hdR : dithR b R E = dR R (b.length * b[0].length) := by unfold dithR; rw [if_pos h0, hfr]
    have hdE : dithE e sh b R E = dE e sh b R E (b.length * b[0].length) := by unfold dithE; rw [if_pos h0, hfr]
    rw [hdS, hdR, hdE, h0] at h
    refine callS_walk tt_ok Try.func32 rfl (by kernel_rfl) ?_
    conv => whnf
    repeat' ((conv => whnf); first | (apply refValid_v; (· exact mtA); (· with_reducible assumption)) | (apply unit_c) | (refine nothingF_c (n := b.length) (m := b[0].length) ?_ (fun H1 o2 rs hle hom => ?_); (· omega); (have hs1 : H.size + 2 ≤ H1.size := by have := hle.size; rw [AHeap.push_size, AHeap.push_size] at this; exact this); (have gt1 : H1.get H.size = some (.cells [iv e, iv E.length, .bool sh, iv R, .slice (some ⟨i1, off1, none⟩) E.length cE] true 0) := (hle.get H.size hoA).trans hgA); (have gr1 : H1.get (H.size + 1) = some (.cells [iv 0, iv 0, .bool false, iv 0, .slice none 0 0] true 0) := (hle.get (H.size + 1) hoA).trans hgA); (have hH1 : H.le H1 := AHeap.le.trans leA hle); (have hkp1 : Kp H H1 := hH1.kp)) | (refine loadsK_row hr ?_ ?_; (· exact kpA)) | ((first | (apply vB; (case h => with_reducible assumption)) | (apply vA; (case h => with_reducible assumption)) | (apply vC; (case h => with_reducible assumption)) | (apply vD; (case h => with_reducible assumption))); (case hk => exact kpA); (case he => omega)) | ((first | (apply vI; (case h => with_reducible assumption)) | (apply vG; (case h => with_reducible assumption)) | (apply vK; (case h => with_reducible assumption))); (case hk => exact kpA); (case he => omega); (case hp => omega); (case' g => intro hr_ hc_)) | ((first | (apply vJ; (case h => with_reducible assumption)) | (apply vH; (case h => with_reducible assumption)) | (apply vL; (case h => with_reducible assumption))); (case hk => exact kpA); (case he => omega); (case' g => intro hr_ hc_)) | (apply drawS_auto mixed tt_ok; (· kernel_rfl)) | apply zZ | apply yA | apply yB | ((first | apply zA | apply zC | apply zE | apply zG); (· with_reducible assumption)) | ((first | apply zB | apply zD | apply zF | apply zH); (· with_reducible assumption)) | apply zM | apply zN | apply zO | apply zP | apply zQ | apply zR | apply zS | apply zT | apply zU | (apply zV; (· omega)) | (apply zW; (· omega)) | (apply zX; (· (first | omega | (dsimp only; omega)))) | (apply zY; (try (apply zY; apply zX; (· omega))); apply zX; (· omega); apply zX; (· (first | omega | (dsimp only; omega)))) | ((first | apply yJ | apply yK | apply yL | apply yM | apply yN | apply yO); (· exact hgA); (· exact hsA)) | (apply yNP; (· exact hgA); (· exact hsA)) | ((first | apply zA | apply zC | apply zE | apply zG); (· omega)) | ((first | apply zB | apply zD | apply zF | apply zH); (· omega)) | ((first | apply zI | apply zK); (· with_reducible assumption)) | ((first | apply zJ | apply zL); (· with_reducible assumption)) | ((first | apply xA | apply xC | apply xE | apply xG); (· first | assumption | rfl)) | ((first | apply xB | apply xD | apply xF | apply xH); (· first | assumption | kernel_rfl)) | fail)
    conv => whnf
    rw [Nat.zero_add E.length]
    simp only [AHeap.push_size, AHeap.set_size, AHeap.kill_size] at hom ⊢
    have hoj : ∀ j, j = o2 ∨ j ∈ rs → H.size + 2 ≤ j ∧ j < H1.size := fun j hj => by
      rcases hj with rfl | hj
      · exact ⟨hom.lo.1, hom.lt.1⟩
      · exact ⟨hom.lo.2 _ hj, hom.lt.2 _ hj⟩
    have nin : ∀ {j : Nat}, (j < H.size + 2 ∨ H1.size ≤ j) → j ∉ rs := fun hj hm => by
      have := hoj _ (.inr hm)
      omega
    generalize hHs : AHeap.set (AHeap.push (AHeap.kill (AHeap.push H1 _) _) _) H.size _ = Hs
    have hf : Hs.size = H1.size + 2 ∧ H.le Hs ∧ Hs.get H.size = some (.cells [iv e, iv E.length, .bool sh, iv (dR R (0)), .slice (some ⟨H1.size + 1, 0, none⟩) E.length E.length] true 0) ∧ Hs.get (H.size + 1) = some (.cells [iv 0, iv 0, .bool false, iv 0, .slice none 0 0] true 0) ∧ Hs.get (H1.size + 1) = some (.cells ((dE e sh b R E (0)).map (Value.int .i64)) true 1) ∧ OMat Hs (H.size + 2) o2 rs (matF (fun c f => if idx false b.length b[0].length c f < 0 then dLm e sh b R E c f else 0) b.length b[0].length) [] := by
      subst hHs
      exact ⟨by rw [AHeap.set_size, AHeap.push_size, AHeap.kill_size, AHeap.push_size], AHeap.le.set (AHeap.le.push (AHeap.le.kill (AHeap.le.push hH1 _) (by omega)) _) (by omega) _, by rw [dR_0]; exact AHeap.set_same _ _ _, hgA, by rw [dE_0]; exact (AHeap.set_ne _ _ (by omega)).trans (AHeap.push_at _ _ (by rw [AHeap.kill_size, AHeap.push_size])), (hom.cast _ (fun i hi c hc => by simp)).of_get hoA (fun j hj hjm => by
        have := hoj j hjm
        exact (AHeap.set_ne _ _ (by omega)).trans ((AHeap.push_ne _ _ (by rw [AHeap.kill_size, AHeap.push_size]; omega)).trans ((AHeap.kill_ne _ (by omega)).trans (AHeap.push_ne _ _ (by omega)))))⟩
    refine loopS_mask tt_ok (fun (k : Nat × AHeap) => [.w, .p (.bool pl), .p (.slice (some ⟨i0, off, none⟩) b.length c), .p (.pointer (some ⟨H.size, 0, none⟩)), .w, .w, .p (.pointer (some ⟨H.size + 1, 0, none⟩)), .w, .w, .p (iv (unitF e)), .p (.slice (some ⟨o2, 0, none⟩) b.length b.length), .p (iv k.1), .w, .w, .w, .w, .w, .w, .w, .w, .w, .w, .w, .w, .w, .w, .w, .w, .w, .w, .w, .w, .w, .w, .w, .w, .w, .w, .w, .w, .w, .w, .w, .w, .w, .w, .w, .w, .w, .w, .w, .w, .w, .w, .w, .w, .w, .w, .w, .w, .w, .w, .w, .w, .w, .w, .w, .w, .w, .w, .w, .w, .w, .w, .w, .w, .w, .w, .w, .w, .w, .w, .w, .w, .w, .w, .w, .w, .w, .w, .w, .w, .w, .w, .w, .w, .w, .w, .w, .w, .w, .w, .w, .w, .w, .w, .w, .w, .w, .w, .w, .w, .w, .w, .w, .w, .w, .w, .w, .w, .w, .w, .w, .w, .w, .w, .w, .w, .w]) (fun (k : Nat × AHeap) => k.2) (fun (k : Nat × AHeap) => k.1 ≤ b[0].length ∧ k.2.size = H1.size + 2 ∧ H.le k.2 ∧ k.2.get H.size = some (.cells [iv e, iv E.length, .bool sh, iv (dR R (k.1 * b.length)), .slice (some ⟨H1.size + 1, 0, none⟩) E.length E.length] true 0) ∧ k.2.get (H.size + 1) = some (.cells [iv 0, iv 0, .bool false, iv 0, .slice none 0 0] true 0) ∧ k.2.get (H1.size + 1) = some (.cells ((dE e sh b R E (k.1 * b.length)).map (Value.int .i64)) true 1) ∧ OMat k.2 (H.size + 2) o2 rs (matF (fun c f => if idx false b.length b[0].length c f < k.1 * b.length then dLm e sh b R E c f else 0) b.length b[0].length) []) (fun (k : Nat × AHeap) => b[0].length - k.1) (⟨0, Hs⟩) (⟨by omega, by rw [Nat.zero_mul]; exact hf⟩) ?_ (fun k hk => ?_)
    · conv => whnf
      refine weakH_of (HW.refl _) ?_
      repeat' (first | exact WT.nil | refine WT.same ?_ | refine WT.drop ?_ | refine WT.int (by omega) ?_ | refine WT.eq (by assumption) ?_ | refine WT.bl (by first | assumption | (symm; assumption)) ?_ | refine WT.vv (by assumption) ?_)
    obtain ⟨k, H2⟩ := k
    obtain ⟨hk, hz2, hle2, gt2, gr2, gE2, hom2⟩ := hk
    dsimp only at hk hz2 hle2 gt2 gr2 gE2 hom2 ⊢
    have hkp2 := hle2.kp
    by_cases hkN : k < b[0].length
    · skip
      repeat' ((conv => whnf); first | ((first | (apply vB; (case h => with_reducible assumption)) | (apply vA; (case h => with_reducible assumption)) | (apply vC; (case h => with_reducible assumption)) | (apply vD; (case h => with_reducible assumption))); (case hk => exact kpA); (case he => omega)) | ((first | (apply vI; (case h => with_reducible assumption)) | (apply vG; (case h => with_reducible assumption)) | (apply vK; (case h => with_reducible assumption))); (case hk => exact kpA); (case he => omega); (case hp => omega); (case' g => intro hr_ hc_)) | ((first | (apply vJ; (case h => with_reducible assumption)) | (apply vH; (case h => with_reducible assumption)) | (apply vL; (case h => with_reducible assumption))); (case hk => exact kpA); (case he => omega); (case' g => intro hr_ hc_)) | (apply drawS_auto mixed tt_ok; (· kernel_rfl)) | apply zZ | apply yA | apply yB | ((first | apply zA | apply zC | apply zE | apply zG); (· with_reducible assumption)) | ((first | apply zB | apply zD | apply zF | apply zH); (· with_reducible assumption)) | apply zM | apply zN | apply zO | apply zP | apply zQ | apply zR | apply zS | apply zT | apply zU | (apply zV; (· omega)) | (apply zW; (· omega)) | (apply zX; (· (first | omega | (dsimp only; omega)))) | (apply zY; (try (apply zY; apply zX; (· omega))); apply zX; (· omega); apply zX; (· (first | omega | (dsimp only; omega)))) | ((first | apply yJ | apply yK | apply yL | apply yM | apply yN | apply yO); (· exact hgA); (· exact hsA)) | (apply yNP; (· exact hgA); (· exact hsA)) | ((first | apply zA | apply zC | apply zE | apply zG); (· omega)) | ((first | apply zB | apply zD | apply zF | apply zH); (· omega)) | ((first | apply zI | apply zK); (· with_reducible assumption)) | ((first | apply zJ | apply zL); (· with_reducible assumption)) | ((first | apply xA | apply xC | apply xE | apply xG); (· first | assumption | rfl)) | ((first | apply xB | apply xD | apply xF | apply xH); (· first | assumption | kernel_rfl)) | fail)
      conv => whnf
      refine loopS_mask tt_ok (fun (j : Nat × AHeap) => [.w, .p (.bool pl), .p (.slice (some ⟨i0, off, none⟩) b.length c), .p (.pointer (some ⟨H.size, 0, none⟩)), .w, .w, .p (.pointer (some ⟨H.size + 1, 0, none⟩)), .w, .w, .p (iv (unitF e)), .p (.slice (some ⟨o2, 0, none⟩) b.length b.length), .p (iv k), .p (iv j.1), .w, .w, .w, .w, .w, .w, .w, .w, .w, .w, .w, .w, .w, .w, .w, .w, .w, .w, .w, .w, .w, .w, .w, .w, .w, .w, .w, .w, .w, .w, .w, .w, .w, .w, .w, .w, .w, .w, .w, .w, .w, .w, .w, .w, .w, .w, .w, .w, .w, .w, .w, .w, .w, .w, .w, .w, .w, .w, .w, .w, .w, .w, .w, .w, .w, .w, .w, .w, .w, .w, .w, .w, .w, .w, .w, .w, .w, .w, .w, .w, .w, .w, .w, .w, .w, .w, .w, .w, .w, .w, .w, .w, .w, .w, .w, .w, .w, .w, .w, .w, .w, .w, .w, .w, .w, .w, .w, .w, .w, .w, .w, .w, .w, .w, .w, .w]) (fun (j : Nat × AHeap) => j.2) (fun (j : Nat × AHeap) => j.1 ≤ b.length ∧ j.2.size = H1.size + 2 ∧ H.le j.2 ∧ j.2.get H.size = some (.cells [iv e, iv E.length, .bool sh, iv (dR R (k * b.length + j.1)), .slice (some ⟨H1.size + 1, 0, none⟩) E.length E.length] true 0) ∧ j.2.get (H.size + 1) = some (.cells [iv 0, iv 0, .bool false, iv 0, .slice none 0 0] true 0) ∧ j.2.get (H1.size + 1) = some (.cells ((dE e sh b R E (k * b.length + j.1)).map (Value.int .i64)) true 1) ∧ OMat j.2 (H.size + 2) o2 rs (matF (fun c f => if idx false b.length b[0].length c f < k * b.length + j.1 then dLm e sh b R E c f else 0) b.length b[0].length) []) (fun (j : Nat × AHeap) => b.length - j.1) (⟨0, H2⟩) (⟨by omega, hz2, hle2, by rw [Nat.add_zero]; exact gt2, gr2, by rw [Nat.add_zero]; exact gE2, by rw [Nat.add_zero]; exact hom2⟩) ?_ (fun j hj => ?_)
      · conv => whnf
        refine weakH_of (HW.refl _) ?_
        repeat' (first | exact WT.nil | refine WT.same ?_ | refine WT.drop ?_ | refine WT.int (by omega) ?_ | refine WT.eq (by assumption) ?_ | refine WT.bl (by first | assumption | (symm; assumption)) ?_ | refine WT.vv (by assumption) ?_)
      obtain ⟨j, H3⟩ := j
      obtain ⟨hj, hz3, hle3, gt3, gr3, gE3, hom3⟩ := hj
      dsimp only at hj hz3 hle3 gt3 gr3 gE3 hom3 ⊢
      have hkp3 := hle3.kp
      by_cases hjC : j < b.length
      · have hp := place_idx (pl := false) hjC hkN
        have hi := idx_lt (pl := false) hjC hkN
        rw [idx_f] at hp hi
        have hbl := (hbr b[j] (List.getElem_mem _)).1
        have hfi : k < b[j].length := by omega
        have hx := (hbr b[j] (List.getElem_mem _)).2.2 _ (List.getElem_mem hfi)
        have hRb := dR_bd hR (k * b.length + j)
        have hEg := okE_get (dE_ok (e := e) (sh := sh) (b := b) (R := R) hE (k * b.length + j)) j
        have hA : b[j][k] - (dE e sh b R E (k * b.length + j)).getD j 0 = dA e sh b R E (k * b.length + j) := by
          rw [dA_eq, hfr, hp.1, hp.2, at2_eq hjC hfi]
        have hAr : -9223372036854775808 ≤ dA e sh b R E (k * b.length + j) ∧ dA e sh b R E (k * b.length + j) ≤ 9223372036854775807 := by rw [← hA]; omega
        have hAb : -8454143 ≤ dA e sh b R E (k * b.length + j) ∧ dA e sh b R E (k * b.length + j) ≤ 8454143 := by rw [← hA]; omega
        have hcE : j < (dE e sh b R E (k * b.length + j)).length := by rw [dE_len]; omega
        have hmod := mod_bd e (nxt_bd hRb)
        have hLe := dL_eq e sh b R E (k * b.length + j)
        rw [nxt_def] at hmod hLe
        have hLb := dL_bd e sh b R E (k * b.length + j)
        have hml := mul_bdd (A := 32767) (B := 65536) (a := dL e sh b R E (k * b.length + j)) (x := unitF e) (by omega) (by omega)
        have e1 : (if idx false b.length b[0].length j k < k * b.length + (j + 1) then dLm e sh b R E j k else 0) = dL e sh b R E (k * b.length + j) := by
          rw [idx_f, if_pos (by omega), dLm_eq, hfr, idx_f]
        have hLv : dL e sh b R E (k * b.length + j) = dLm e sh b R E (pc b.length b[0].length false (k * b.length + j)) (pf b.length b[0].length false (k * b.length + j)) := by rw [hp.1, hp.2, dLm_eq, hfr, idx_f]
        have fl := fun c f hc hf => fill_idx (g := dLm e sh b R E) hLv hi c f hc hf
        simp only [hp.1, hp.2] at fl
        rw [hLe] at fl
        have hsub : dA e sh b R E (k * b.length + j) + ((dR R (k * b.length + j) * 1103515245 + 12345).tmod 2147483648).tmod (unitF e) - (unitF e).tdiv 2 = dA e sh b R E (k * b.length + j) + (((dR R (k * b.length + j) * 1103515245 + 12345).tmod 2147483648).tmod (unitF e) - (unitF e).tdiv 2) := by omega
        have hsr : -9223372036854775808 ≤ dA e sh b R E (k * b.length + j) + (((dR R (k * b.length + j) * 1103515245 + 12345).tmod 2147483648).tmod (unitF e) - (unitF e).tdiv 2) ∧ dA e sh b R E (k * b.length + j) + (((dR R (k * b.length + j) * 1103515245 + 12345).tmod 2147483648).tmod (unitF e) - (unitF e).tdiv 2) ≤ 9223372036854775807 := by omega
        cases sh with
        | false =>
          have hz0 := plainE_get (dE_plain (e := e) (b := b) (R := R) hP (k * b.length + j)) j
          have hA0 : b[j][k] = dA e false b R E (k * b.length + j) := by rw [← hA, hz0]; omega
          repeat' ((conv => whnf); first | rw [hA0] | refine intK_eq hsub hsr ?_ | (apply refRounded_c; (· omega); (· omega)) | refine refTop_c he ?_ | (apply refBounded_c) | refine (hom3.of_get hoA (fun x hx hxm => AHeap.set_ne _ _ (by have := hoj x hxm; omega))).row hjC ?_ | refine (hom3.of_get hoA (fun x hx hxm => AHeap.set_ne _ _ (by have := hoj x hxm; omega))).put2 hjC hkN (fun c f => if idx false b.length b[0].length c f < k * b.length + (j + 1) then dLm e false b R E c f else 0) (fun c hc f hf => fl c f hc hf) (fun H4 hom4 hkp4 => ?_); (have gt4 : H4.get H.size = some (.cells [iv e, iv E.length, .bool false, iv ((dR R (k * b.length + j) * 1103515245 + 12345).tmod 2147483648), .slice (some ⟨H1.size + 1, 0, none⟩) E.length E.length] true 0) := (hkp4.get _ (nin (by omega))).trans hgA); (have gE4 := (hkp4.get (H1.size + 1) (nin (by omega))).trans ((AHeap.set_ne _ _ (by omega)).trans gE3)); (have gr4 := (hkp4.get (H.size + 1) (nin (by omega))).trans ((AHeap.set_ne _ _ (by omega)).trans gr3)); (have hz4 : H4.size = H1.size + 2 := by rw [hkp4.size, AHeap.set_size, hz3]); (have hle4 : H.le H4 := hkp4.le H (by omega) (AHeap.le.set hle3 (Nat.le_refl _) _)); (have hkp5 := hle4.kp) | ((first | (apply vB; (case h => with_reducible assumption)) | (apply vA; (case h => with_reducible assumption)) | (apply vC; (case h => with_reducible assumption)) | (apply vD; (case h => with_reducible assumption))); (case hk => exact kpA); (case he => omega)) | ((first | (apply vI; (case h => with_reducible assumption)) | (apply vG; (case h => with_reducible assumption)) | (apply vK; (case h => with_reducible assumption))); (case hk => exact kpA); (case he => omega); (case hp => omega); (case' g => intro hr_ hc_)) | ((first | (apply vJ; (case h => with_reducible assumption)) | (apply vH; (case h => with_reducible assumption)) | (apply vL; (case h => with_reducible assumption))); (case hk => exact kpA); (case he => omega); (case' g => intro hr_ hc_)) | (apply drawS_auto mixed tt_ok; (· kernel_rfl)) | apply zZ | apply yA | apply yB | ((first | apply zA | apply zC | apply zE | apply zG); (· with_reducible assumption)) | ((first | apply zB | apply zD | apply zF | apply zH); (· with_reducible assumption)) | apply zM | apply zN | apply zO | apply zP | apply zQ | apply zR | apply zS | apply zT | apply zU | (apply zV; (· omega)) | (apply zW; (· omega)) | (apply zX; (· (first | omega | (dsimp only; omega)))) | (apply zY; (try (apply zY; apply zX; (· omega))); apply zX; (· omega); apply zX; (· (first | omega | (dsimp only; omega)))) | ((first | apply yJ | apply yK | apply yL | apply yM | apply yN | apply yO); (· exact hgA); (· exact hsA)) | (apply yNP; (· exact hgA); (· exact hsA)) | ((first | apply zA | apply zC | apply zE | apply zG); (· omega)) | ((first | apply zB | apply zD | apply zF | apply zH); (· omega)) | ((first | apply zI | apply zK); (· with_reducible assumption)) | ((first | apply zJ | apply zL); (· with_reducible assumption)) | ((first | apply xA | apply xC | apply xE | apply xG); (· first | assumption | rfl)) | ((first | apply xB | apply xD | apply xF | apply xH); (· first | assumption | kernel_rfl)) | fail)
          conv => whnf
          apply Exists.intro (j + 1, H4)
          refine ⟨?inv, ?mu, ?wk⟩
          case wk =>
            conv => whnf
            refine weakH_of (HW.refl _) ?_
            repeat' (first | exact WT.nil | refine WT.same ?_ | refine WT.drop ?_ | refine WT.int (by omega) ?_ | refine WT.eq (by assumption) ?_ | refine WT.bl (by first | assumption | (symm; assumption)) ?_ | refine WT.vv (by assumption) ?_)
          case mu => first | omega | (dsimp only; omega)
          case inv => exact ⟨by omega, hz4, hle4, by rw [← Nat.add_assoc, dR_s, nxt_def]; exact gt4, gr4, by rw [← Nat.add_assoc, dE_f]; exact gE4, hom4⟩
        | true =>
          have hdE : dE e true b R E (k * b.length + (j + 1)) = (dE e true b R E (k * b.length + j)).set j (max (0 - unitF e) (min (unitF e) (dL e true b R E (k * b.length + j) * unitF e - dA e true b R E (k * b.length + j)))) := by rw [← Nat.add_assoc, dE_t, hfr, hp.1, dstepE_eq]
          repeat' ((conv => whnf); first | refine loadK_ints ((AHeap.set_ne _ _ (by omega)).trans gE3) hcE ?_ | refine intK_eq hA hAr ?_ | refine intK_eq hsub hsr ?_ | (apply refRounded_c; (· omega); (· omega)) | refine refTop_c he ?_ | (apply refBounded_c) | refine (hom3.of_get hoA (fun x hx hxm => AHeap.set_ne _ _ (by have := hoj x hxm; omega))).row hjC ?_ | refine (hom3.of_get hoA (fun x hx hxm => AHeap.set_ne _ _ (by have := hoj x hxm; omega))).put2 hjC hkN (fun c f => if idx false b.length b[0].length c f < k * b.length + (j + 1) then dLm e true b R E c f else 0) (fun c hc f hf => fl c f hc hf) (fun H4 hom4 hkp4 => ?_); (have gt4 : H4.get H.size = some (.cells [iv e, iv E.length, .bool true, iv ((dR R (k * b.length + j) * 1103515245 + 12345).tmod 2147483648), .slice (some ⟨H1.size + 1, 0, none⟩) E.length E.length] true 0) := (hkp4.get _ (nin (by omega))).trans hgA); (have gE4 := (hkp4.get (H1.size + 1) (nin (by omega))).trans ((AHeap.set_ne _ _ (by omega)).trans gE3)); (have gr4 := (hkp4.get (H.size + 1) (nin (by omega))).trans ((AHeap.set_ne _ _ (by omega)).trans gr3)); (have hz4 : H4.size = H1.size + 2 := by rw [hkp4.size, AHeap.set_size, hz3]); (have hle4 : H.le H4 := hkp4.le H (by omega) (AHeap.le.set hle3 (Nat.le_refl _) _)); (have hkp5 := hle4.kp) | refine hom4.row hjC ?_ | refine hom4.at hjC hkN ?_; rw [e1] | refine storeK_ints gE4 hcE ?_ | ((first | (apply vB; (case h => with_reducible assumption)) | (apply vA; (case h => with_reducible assumption)) | (apply vC; (case h => with_reducible assumption)) | (apply vD; (case h => with_reducible assumption))); (case hk => exact kpA); (case he => omega)) | ((first | (apply vI; (case h => with_reducible assumption)) | (apply vG; (case h => with_reducible assumption)) | (apply vK; (case h => with_reducible assumption))); (case hk => exact kpA); (case he => omega); (case hp => omega); (case' g => intro hr_ hc_)) | ((first | (apply vJ; (case h => with_reducible assumption)) | (apply vH; (case h => with_reducible assumption)) | (apply vL; (case h => with_reducible assumption))); (case hk => exact kpA); (case he => omega); (case' g => intro hr_ hc_)) | (apply drawS_auto mixed tt_ok; (· kernel_rfl)) | apply zZ | apply yA | apply yB | ((first | apply zA | apply zC | apply zE | apply zG); (· with_reducible assumption)) | ((first | apply zB | apply zD | apply zF | apply zH); (· with_reducible assumption)) | apply zM | apply zN | apply zO | apply zP | apply zQ | apply zR | apply zS | apply zT | apply zU | (apply zV; (· omega)) | (apply zW; (· omega)) | (apply zX; (· (first | omega | (dsimp only; omega)))) | (apply zY; (try (apply zY; apply zX; (· omega))); apply zX; (· omega); apply zX; (· (first | omega | (dsimp only; omega)))) | ((first | apply yJ | apply yK | apply yL | apply yM | apply yN | apply yO); (· exact hgA); (· exact hsA)) | (apply yNP; (· exact hgA); (· exact hsA)) | ((first | apply zA | apply zC | apply zE | apply zG); (· omega)) | ((first | apply zB | apply zD | apply zF | apply zH); (· omega)) | ((first | apply zI | apply zK); (· with_reducible assumption)) | ((first | apply zJ | apply zL); (· with_reducible assumption)) | ((first | apply xA | apply xC | apply xE | apply xG); (· first | assumption | rfl)) | ((first | apply xB | apply xD | apply xF | apply xH); (· first | assumption | kernel_rfl)) | fail)
          conv => whnf
          apply Exists.intro (j + 1, _)
          refine ⟨?inv, ?mu, ?wk⟩
          case wk =>
            conv => whnf
            refine weakH_of (HW.refl _) ?_
            repeat' (first | exact WT.nil | refine WT.same ?_ | refine WT.drop ?_ | refine WT.int (by omega) ?_ | refine WT.eq (by assumption) ?_ | refine WT.bl (by first | assumption | (symm; assumption)) ?_ | refine WT.vv (by assumption) ?_)
          case mu => first | omega | (dsimp only; omega)
          case inv => exact ⟨by omega, hz4, AHeap.le.set hle4 (by omega) _, by rw [← Nat.add_assoc, dR_s, nxt_def]; exact (AHeap.set_ne _ _ (by omega)).trans gt4, (AHeap.set_ne _ _ (by omega)).trans gr4, by rw [hdE]; exact AHeap.set_same _ _ _, hom4.of_get (Nat.le_refl _) (fun x hx hxm => AHeap.set_ne _ _ (by have := hoj x hxm; omega))⟩
      · have hjc : j = b.length := by omega
        subst hjc
        have e1 : (k + 1) * b.length = k * b.length + b.length := Nat.succ_mul _ _
        repeat' ((conv => whnf); first | ((first | (apply vB; (case h => with_reducible assumption)) | (apply vA; (case h => with_reducible assumption)) | (apply vC; (case h => with_reducible assumption)) | (apply vD; (case h => with_reducible assumption))); (case hk => exact kpA); (case he => omega)) | ((first | (apply vI; (case h => with_reducible assumption)) | (apply vG; (case h => with_reducible assumption)) | (apply vK; (case h => with_reducible assumption))); (case hk => exact kpA); (case he => omega); (case hp => omega); (case' g => intro hr_ hc_)) | ((first | (apply vJ; (case h => with_reducible assumption)) | (apply vH; (case h => with_reducible assumption)) | (apply vL; (case h => with_reducible assumption))); (case hk => exact kpA); (case he => omega); (case' g => intro hr_ hc_)) | (apply drawS_auto mixed tt_ok; (· kernel_rfl)) | apply zZ | apply yA | apply yB | ((first | apply zA | apply zC | apply zE | apply zG); (· with_reducible assumption)) | ((first | apply zB | apply zD | apply zF | apply zH); (· with_reducible assumption)) | apply zM | apply zN | apply zO | apply zP | apply zQ | apply zR | apply zS | apply zT | apply zU | (apply zV; (· omega)) | (apply zW; (· omega)) | (apply zX; (· (first | omega | (dsimp only; omega)))) | (apply zY; (try (apply zY; apply zX; (· omega))); apply zX; (· omega); apply zX; (· (first | omega | (dsimp only; omega)))) | ((first | apply yJ | apply yK | apply yL | apply yM | apply yN | apply yO); (· exact hgA); (· exact hsA)) | (apply yNP; (· exact hgA); (· exact hsA)) | ((first | apply zA | apply zC | apply zE | apply zG); (· omega)) | ((first | apply zB | apply zD | apply zF | apply zH); (· omega)) | ((first | apply zI | apply zK); (· with_reducible assumption)) | ((first | apply zJ | apply zL); (· with_reducible assumption)) | ((first | apply xA | apply xC | apply xE | apply xG); (· first | assumption | rfl)) | ((first | apply xB | apply xD | apply xF | apply xH); (· first | assumption | kernel_rfl)) | fail)
        conv => whnf
        apply Exists.intro (k + 1, H3)
        refine ⟨?inv, ?mu, ?wk⟩
        case wk =>
          conv => whnf
          refine weakH_of (HW.refl _) ?_
          repeat' (first | exact WT.nil | refine WT.same ?_ | refine WT.drop ?_ | refine WT.int (by omega) ?_ | refine WT.eq (by assumption) ?_ | refine WT.bl (by first | assumption | (symm; assumption)) ?_ | refine WT.vv (by assumption) ?_)
        case mu => first | omega | (dsimp only; omega)
        case inv => exact ⟨by omega, hz3, hle3, by rw [e1]; exact gt3, gr3, by rw [e1]; exact gE3, by rw [e1]; exact hom3⟩
    · have hkn : k = b[0].length := by omega
      have e2 : k * b.length = b.length * b[0].length := by rw [hkn, Nat.mul_comm]
      rw [e2] at gt2 gE2 hom2
      have hok := dE_ok (e := e) (sh := sh) (b := b) (R := R) hE (b.length * b[0].length)
      have hlE := dE_len e sh b R E (b.length * b[0].length)
      generalize dE e sh b R E (b.length * b[0].length) = E2 at *
      generalize dR R (b.length * b[0].length) = R2 at *
      have hdM : dM e sh b R E = matF (dLm e sh b R E) b.length b[0].length := by unfold dM; rw [hfr]
      have hLb : ∀ c f, 0 - maxF e ≤ dLm e sh b R E c f ∧ dLm e sh b R E c f ≤ maxF e := fun c f => by rw [dLm_eq]; exact dL_bd _ _ _ _ _ _
      have hmat := (hom2.cast (dLm e sh b R E) (fun c hc f hf => by rw [if_pos (idx_lt hc hf)])).fzF (b := H.size + 2) (Nat.le_refl _) (by unfold maxN; omega) (by unfold maxN; omega) (fun c hc f hf => by have := hLb c f; unfold inR; omega)
      rw [← hdM] at hmat
      have hMl : (dM e sh b R E).length = b.length := by rw [hdM, matF_len]
      have hMf : framesB (dM e sh b R E) = b[0].length := by rw [frames0 (by omega)]; simp only [hdM]; rw [matF_get, rowF_len]
      have hMr : ∀ r ∈ dM e sh b R E, r.length = framesB (dM e sh b R E) ∧ ∀ x ∈ r, -2147483648 ≤ x ∧ x ≤ 2147483648 := fun r hr => by
        rw [hMf]
        rw [hdM] at hr
        obtain ⟨a, ha, rfl⟩ := mem_matF hr
        refine ⟨rowF_len _ _, fun x hx => ?_⟩
        obtain ⟨f, hf, rfl⟩ := mem_rowF hx
        have := hLb a f
        omega
      generalize dM e sh b R E = M at *
      obtain ⟨a, ha, hrE⟩ := ORowV.fz (H := H2) (base := H.size + 2) (b := H.size + 2) (xs := E2) (.inr ⟨H1.size + 1, rfl, gE2, by omega, by omega⟩) (Nat.le_refl _) (by unfold maxN; omega) (fun x hx => by have := hok x hx; unfold inR; omega)
      cases ha
      have hE2R : ∀ H', Kp (H2.fz (H.size + 2)) H' → Row H' (some ⟨H1.size + 1, 0, none⟩) E2 := fun H' hk => hrE.kp hk
      have gt3 : (H2.fz (H.size + 2)).get H.size = some (.cells [iv e, iv E.length, .bool sh, iv R2, .slice (some ⟨H1.size + 1, 0, none⟩) E.length E.length] true 0) := (AHeap.fz_lt _ (by omega)).trans gt2
      have gr3 : (H2.fz (H.size + 2)).get (H.size + 1) = some (.cells [iv 0, iv 0, .bool false, iv 0, .slice none 0 0] true 0) := (AHeap.fz_lt _ (by omega)).trans gr2
      have hz3 := AHeap.fz_size H2 (H.size + 2)
      have hle3 : H.le (H2.fz (H.size + 2)) := AHeap.le.fz hle2 (by omega)
      repeat' ((conv => whnf); first | refine callS_pre (HW.fz _ (H.size + 2)) ?_; refine laid_v hMl he hmat (by omega) (by rw [hMf]; exact hL4) (fun r hr => (hMr r hr).1) (fun r hr => (hMr r hr).2) ?_; rw [hMl, hMf] | ((first | (apply vB; (case h => with_reducible assumption)) | (apply vA; (case h => with_reducible assumption)) | (apply vC; (case h => with_reducible assumption)) | (apply vD; (case h => with_reducible assumption))); (case hk => exact kpA); (case he => omega)) | ((first | (apply vI; (case h => with_reducible assumption)) | (apply vG; (case h => with_reducible assumption)) | (apply vK; (case h => with_reducible assumption))); (case hk => exact kpA); (case he => omega); (case hp => omega); (case' g => intro hr_ hc_)) | ((first | (apply vJ; (case h => with_reducible assumption)) | (apply vH; (case h => with_reducible assumption)) | (apply vL; (case h => with_reducible assumption))); (case hk => exact kpA); (case he => omega); (case' g => intro hr_ hc_)) | (apply drawS_auto mixed tt_ok; (· kernel_rfl)) | apply zZ | apply yA | apply yB | ((first | apply zA | apply zC | apply zE | apply zG); (· with_reducible assumption)) | ((first | apply zB | apply zD | apply zF | apply zH); (· with_reducible assumption)) | apply zM | apply zN | apply zO | apply zP | apply zQ | apply zR | apply zS | apply zT | apply zU | (apply zV; (· omega)) | (apply zW; (· omega)) | (apply zX; (· (first | omega | (dsimp only; omega)))) | (apply zY; (try (apply zY; apply zX; (· omega))); apply zX; (· omega); apply zX; (· (first | omega | (dsimp only; omega)))) | ((first | apply yJ | apply yK | apply yL | apply yM | apply yN | apply yO); (· exact hgA); (· exact hsA)) | (apply yNP; (· exact hgA); (· exact hsA)) | ((first | apply zA | apply zC | apply zE | apply zG); (· omega)) | ((first | apply zB | apply zD | apply zF | apply zH); (· omega)) | ((first | apply zI | apply zK); (· with_reducible assumption)) | ((first | apply zJ | apply zL); (· with_reducible assumption)) | ((first | apply xA | apply xC | apply xE | apply xG); (· first | assumption | rfl)) | ((first | apply xB | apply xD | apply xF | apply xH); (· first | assumption | kernel_rfl)) | fail)
      conv => whnf
      exact h _ _ _ (AHeap.le.set hle3 (by omega) _) (hE2R _ kpA)
  · have hS : dithS e sh pl b R E = .empty := by unfold dithS; rw [if_neg h0]
    have hRR : dithR b R E = R := by unfold dithR; rw [if_neg h0]
    have hEE : dithE e sh b R E = E := by unfold dithE; rw [if_neg h0]
    rw [hS, hRR, hEE] at h
    cases hv : blockB b with
    | false =>
      have hC : dithC b E = 1 := by unfold dithC; rw [hv]; rfl
      rw [hC] at h
      refine callS_walk tt_ok Try.func32 rfl (by kernel_rfl) ?_
      conv => whnf
      repeat' ((conv => whnf); first | (apply refValid_v; (· exact mtA); (· with_reducible assumption)) | ((first | (apply vB; (case h => with_reducible assumption)) | (apply vA; (case h => with_reducible assumption)) | (apply vC; (case h => with_reducible assumption)) | (apply vD; (case h => with_reducible assumption))); (case hk => exact kpA); (case he => omega)) | ((first | (apply vI; (case h => with_reducible assumption)) | (apply vG; (case h => with_reducible assumption)) | (apply vK; (case h => with_reducible assumption))); (case hk => exact kpA); (case he => omega); (case hp => omega); (case' g => intro hr_ hc_)) | ((first | (apply vJ; (case h => with_reducible assumption)) | (apply vH; (case h => with_reducible assumption)) | (apply vL; (case h => with_reducible assumption))); (case hk => exact kpA); (case he => omega); (case' g => intro hr_ hc_)) | (apply drawS_auto mixed tt_ok; (· kernel_rfl)) | apply zZ | apply yA | apply yB | ((first | apply zA | apply zC | apply zE | apply zG); (· with_reducible assumption)) | ((first | apply zB | apply zD | apply zF | apply zH); (· with_reducible assumption)) | apply zM | apply zN | apply zO | apply zP | apply zQ | apply zR | apply zS | apply zT | apply zU | (apply zV; (· omega)) | (apply zW; (· omega)) | (apply zX; (· (first | omega | (dsimp only; omega)))) | (apply zY; (try (apply zY; apply zX; (· omega))); apply zX; (· omega); apply zX; (· (first | omega | (dsimp only; omega)))) | ((first | apply yJ | apply yK | apply yL | apply yM | apply yN | apply yO); (· exact hgA); (· exact hsA)) | (apply yNP; (· exact hgA); (· exact hsA)) | ((first | apply zA | apply zC | apply zE | apply zG); (· omega)) | ((first | apply zB | apply zD | apply zF | apply zH); (· omega)) | ((first | apply zI | apply zK); (· with_reducible assumption)) | ((first | apply zJ | apply zL); (· with_reducible assumption)) | ((first | apply xA | apply xC | apply xE | apply xG); (· first | assumption | rfl)) | ((first | apply xB | apply xD | apply xF | apply xH); (· first | assumption | kernel_rfl)) | fail)
      conv => whnf
      exact h _ _ _ leA (hr.kp kpA)
    | true =>
      have hC : dithC b E = if b.length = E.length then 0 else 11 := by unfold dithC; rw [if_pos hv]
      by_cases hl : b.length = E.length
      · rw [hC, if_pos hl] at h0; exact absurd rfl h0
      · rw [hC, if_neg hl] at h
        refine callS_walk tt_ok Try.func32 rfl (by kernel_rfl) ?_
        conv => whnf
        repeat' ((conv => whnf); first | (apply refValid_v; (· exact mtA); (· with_reducible assumption)) | ((first | (apply vB; (case h => with_reducible assumption)) | (apply vA; (case h => with_reducible assumption)) | (apply vC; (case h => with_reducible assumption)) | (apply vD; (case h => with_reducible assumption))); (case hk => exact kpA); (case he => omega)) | ((first | (apply vI; (case h => with_reducible assumption)) | (apply vG; (case h => with_reducible assumption)) | (apply vK; (case h => with_reducible assumption))); (case hk => exact kpA); (case he => omega); (case hp => omega); (case' g => intro hr_ hc_)) | ((first | (apply vJ; (case h => with_reducible assumption)) | (apply vH; (case h => with_reducible assumption)) | (apply vL; (case h => with_reducible assumption))); (case hk => exact kpA); (case he => omega); (case' g => intro hr_ hc_)) | (apply drawS_auto mixed tt_ok; (· kernel_rfl)) | apply zZ | apply yA | apply yB | ((first | apply zA | apply zC | apply zE | apply zG); (· with_reducible assumption)) | ((first | apply zB | apply zD | apply zF | apply zH); (· with_reducible assumption)) | apply zM | apply zN | apply zO | apply zP | apply zQ | apply zR | apply zS | apply zT | apply zU | (apply zV; (· omega)) | (apply zW; (· omega)) | (apply zX; (· (first | omega | (dsimp only; omega)))) | (apply zY; (try (apply zY; apply zX; (· omega))); apply zX; (· omega); apply zX; (· (first | omega | (dsimp only; omega)))) | ((first | apply yJ | apply yK | apply yL | apply yM | apply yN | apply yO); (· exact hgA); (· exact hsA)) | (apply yNP; (· exact hgA); (· exact hsA)) | ((first | apply zA | apply zC | apply zE | apply zG); (· omega)) | ((first | apply zB | apply zD | apply zF | apply zH); (· omega)) | ((first | apply zI | apply zK); (· with_reducible assumption)) | ((first | apply zJ | apply zL); (· with_reducible assumption)) | ((first | apply xA | apply xC | apply xE | apply xG); (· first | assumption | rfl)) | ((first | apply xB | apply xD | apply xF | apply xH); (· first | assumption | kernel_rfl)) | fail)
        conv => whnf
        exact h _ _ _ leA (hr.kp kpA)
end Go.Abs
