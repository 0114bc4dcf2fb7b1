/- The statement SampleApart is proved: for every input the law returns true and its arguments read as before; no conditions. -/
import Derived.Test.YthjmijjppaebgaaS04
import Derived.Test.YthjmijjppaebgaaRows
set_option linter.all false
set_option maxHeartbeats 2000000
set_option maxRecDepth 20000
namespace Go.Abs
open Go Go.Proofs Go.Proofs.Ythjmijjppaebgaa Go.ChangeAt Go.RowKit Go.ChangeShapes Go.WideShapes
theorem Try.own2 : ownKnob Try.prog.godebug = none := by kernel_rfl
theorem awake_c {H : AHeap} {K : CK} (h : K (.returned (.bool true)) H) : callS P (fnV 18) [] H K :=
  callS_closed mixed tt_ok (n := 60) (by kernel_rfl) h
theorem sameRow_w {a b : Option Addr} {c1 c2 n1 n2 : Nat} {xs : List Int} {H : AHeap} {K : CK} (h1 : Row H a xs) (h2 : Row H b xs) (e1 : xs.length = n1) (e2 : xs.length = n2) (h : K (.returned (.bool true)) H) :
    callS P (fnV 28) [.slice a n1 c1, .slice b n2 c2] H K := by
  subst e1
  subst e2
  exact sameRow_c h1 h2 (by rw [show decide (xs = xs) = true by simp]; exact h)
theorem errors_w {d o n : Nat} {e : Int} {sh : Bool} {R : Int} {E E2 : List Int} {H : AHeap} {K : CK} (he : E2 = E) (hn : E.length = n) (hn1 : n ≤ 1000000) (hE : ∀ x ∈ E, inR x) (hD : DitN H d o e sh R E)
    (h : ∀ H' p c, H.le H' → Row H' p E2 → K (.returned (.slice p n c)) H') : callS P (fnV 26) [.pointer (some ⟨d, 0, none⟩)] H K := by
  subst hn
  subst he
  exact errors_c hn1 hE hD h
theorem encode_w {e : Int} {pl : Bool} {p : Option Addr} {c n : Nat} {b : List (List Int)} {v : Int} {H : AHeap} {K : CK} (hn : b.length = n) (hv : encE e b = v) (hb : Mat H p b) (h : ∀ H', H.le H' → K (.returned (.tuple #[.string (encS e pl b), iv v])) H') : callS P (fnV 23) [iv e, .bool pl, .slice p n c] H K := by
  subst hn
  subst hv
  exact encode_c hb h
theorem dEnc_w {d o n : Nat} {e : Int} {sh pl : Bool} {R : Int} {E : List Int} {p : Option Addr} {c : Nat} {b : List (List Int)} {H : AHeap} {K : CK} (hn : b.length = n) (he : enc e) (h4 : e ≤ 4) (hR : inD R) (hE : okE E) (hb : Mat H p b) (hD : DitN H d o e sh R E) (h0 : dithC b E = 0)
    (h : ∀ H', H.size ≤ H'.size → (∀ j, j < H.size → j ≠ d → j ≠ o → H'.get j = H.get j) → DitN H' d o e sh (dithR b R E) (dithE e sh b R E) → K (.returned (.tuple #[.string (dithS e sh pl b R E), iv 0])) H') :
    callS P (fnV 22) [.pointer (some ⟨d, 0, none⟩), .bool pl, .slice p n c] H K := by
  subst hn
  exact dEnc_c he h4 hR hE hb hD h0 h
theorem dithC_ok {b : List (List Int)} {E : List Int} (hv : blockB b = true) (hl : b.length = E.length) : dithC b E = 0 := by unfold dithC; rw [if_pos hv, if_pos hl]
theorem newE_ok {e seed C : Int} (h0 : newE e seed C = 0) : enc e ∧ e ≤ 4 ∧ inD seed := by
  unfold newE at h0
  by_cases hh : enc e ∧ (1 ≤ C ∧ C ≤ 8) ∧ (1 ≤ seed ∧ seed ≤ 2147483647)
  · rw [if_pos hh] at h0
    by_cases h4 : e ≤ 4
    · exact ⟨hh.1, h4, by omega⟩
    · rw [if_neg h4] at h0; omega
  · rw [if_neg hh] at h0; omega
attribute [local irreducible] dithS dithE dithR dithC encS encE cutM
theorem apart_law {e seed at_ : Int} {sh : Bool} {p : Option Addr} {c : Nat} {b : List (List Int)} {H : AHeap} (hb : Mat H p b) :
    ACall P 5 [iv e, iv seed, .bool sh, .slice p b.length c, iv at_] H (fun e _ => e = .returned (.bool true)) := by
  refine acall_walk tt_ok Try.func5 rfl ?_
  conv => whnf
  cases hlb : lightB b with
  | false =>
    repeat' ((conv => whnf); first | (apply light_v; (· exact mtA); (· with_reducible assumption)) | (apply awake_c) | ((first | (apply vB; (case h => with_reducible assumption)) | (apply vA; (case h => with_reducible assumption)) | (apply vC; (case h => with_reducible assumption))); (case hk => exact kpA); (case he => omega)) | ((first | (apply vI; (case h => with_reducible assumption)) | (apply vG; (case h => with_reducible assumption)) | (apply vK; (case h => with_reducible assumption))); (case hk => exact kpA); (case he => omega); (case hp => omega); (case' g => intro hr_ hc_)) | ((first | (apply vJ; (case h => with_reducible assumption)) | (apply vH; (case h => with_reducible assumption)) | (apply vL; (case h => with_reducible assumption))); (case hk => exact kpA); (case he => omega); (case' g => intro hr_ hc_)) | (apply drawS_auto mixed tt_ok; (· kernel_rfl)) | apply zZ | apply yA | apply yB | ((first | apply zA | apply zC | apply zE | apply zG); (· with_reducible assumption)) | ((first | apply zB | apply zD | apply zF | apply zH); (· with_reducible assumption)) | apply zM | apply zN | apply zO | apply zP | apply zQ | apply zR | apply zS | apply zT | apply zU | (apply zV; (· omega)) | (apply zW; (· omega)) | (apply zX; (· (first | omega | (dsimp only; omega)))) | (apply zY; (try (apply zY; apply zX; (· omega))); apply zX; (· omega); apply zX; (· (first | omega | (dsimp only; omega)))) | ((first | apply yJ | apply yK | apply yL | apply yM | apply yN | apply yO); (· exact hgA); (· exact hsA)) | (apply yNP; (· exact hgA); (· exact hsA)) | ((first | apply zA | apply zC | apply zE | apply zG); (· omega)) | ((first | apply zB | apply zD | apply zF | apply zH); (· omega)) | ((first | apply zI | apply zK); (· with_reducible assumption)) | ((first | apply zJ | apply zL); (· with_reducible assumption)) | ((first | apply xA | apply xC | apply xE | apply xG); (· first | assumption | rfl)) | ((first | apply xB | apply xD | apply xF | apply xH); (· first | assumption | kernel_rfl)) | fail)
    conv => whnf
  | true =>
    cases hv : blockB b with
    | false =>
      repeat' ((conv => whnf); first | (apply light_v; (· exact mtA); (· with_reducible assumption)) | (apply refValid_v; (· exact mtA); (· with_reducible assumption)) | (apply awake_c) | ((first | (apply vB; (case h => with_reducible assumption)) | (apply vA; (case h => with_reducible assumption)) | (apply vC; (case h => with_reducible assumption))); (case hk => exact kpA); (case he => omega)) | ((first | (apply vI; (case h => with_reducible assumption)) | (apply vG; (case h => with_reducible assumption)) | (apply vK; (case h => with_reducible assumption))); (case hk => exact kpA); (case he => omega); (case hp => omega); (case' g => intro hr_ hc_)) | ((first | (apply vJ; (case h => with_reducible assumption)) | (apply vH; (case h => with_reducible assumption)) | (apply vL; (case h => with_reducible assumption))); (case hk => exact kpA); (case he => omega); (case' g => intro hr_ hc_)) | (apply drawS_auto mixed tt_ok; (· kernel_rfl)) | apply zZ | apply yA | apply yB | ((first | apply zA | apply zC | apply zE | apply zG); (· with_reducible assumption)) | ((first | apply zB | apply zD | apply zF | apply zH); (· with_reducible assumption)) | apply zM | apply zN | apply zO | apply zP | apply zQ | apply zR | apply zS | apply zT | apply zU | (apply zV; (· omega)) | (apply zW; (· omega)) | (apply zX; (· (first | omega | (dsimp only; omega)))) | (apply zY; (try (apply zY; apply zX; (· omega))); apply zX; (· omega); apply zX; (· (first | omega | (dsimp only; omega)))) | ((first | apply yJ | apply yK | apply yL | apply yM | apply yN | apply yO); (· exact hgA); (· exact hsA)) | (apply yNP; (· exact hgA); (· exact hsA)) | ((first | apply zA | apply zC | apply zE | apply zG); (· omega)) | ((first | apply zB | apply zD | apply zF | apply zH); (· omega)) | ((first | apply zI | apply zK); (· with_reducible assumption)) | ((first | apply zJ | apply zL); (· with_reducible assumption)) | ((first | apply xA | apply xC | apply xE | apply xG); (· first | assumption | rfl)) | ((first | apply xB | apply xD | apply xF | apply xH); (· first | assumption | kernel_rfl)) | fail)
      conv => whnf
    | true =>
      obtain ⟨hC, hR⟩ := blockB_rows hv
      have hfr := frames0 (m := b) (by omega)
      have hL4 := (hR b[0] (List.getElem_mem _)).2.1
      obtain ⟨i0, off, rfl⟩ := hb.at (k := 0) (by omega)
      obtain ⟨n, hn⟩ : ∃ n : Nat, (at_ % 16777216).tmod ((b[0].length : Int) + 1) = (n : Int) := Int.eq_ofNat_of_zero_le (Int.tmod_nonneg _ (Int.emod_nonneg at_ (by decide : (16777216 : Int) ≠ 0)))
      have hnl : (n : Int) < (b[0].length : Int) + 1 := by rw [← hn]; exact Int.tmod_lt_of_pos _ (by omega)
      have hnN : n ≤ b[0].length := by omega
      have hRows : ∀ r ∈ b, r.length = b[0].length ∧ ∀ x ∈ r, -8388607 ≤ x ∧ x ≤ 8388607 := fun r hr => by
        rw [← hfr]; exact ⟨(hR r hr).1, (hR r hr).2.2⟩
      have hsp := encS_split (e := e) (n := n) hv (by omega)
      rw [hfr] at hsp
      have hxl := cutM_len 0 n b
      have hyl := cutM_len n b[0].length b
      obtain ⟨hxv, hxf⟩ := cut_valid (f := 0) (t := n) hv (by omega)
      obtain ⟨hyv, hyf⟩ := cut_valid (f := n) (t := b[0].length) hv (by omega)
      obtain ⟨ee, hee⟩ : ∃ ee, (if enc e then (0 : Int) else 7) = ee := ⟨_, rfl⟩
      have hEb : encE e b = ee := by rw [encE_def, if_pos hv]; exact hee
      have hEx : encE e (cutM 0 n b) = ee := by rw [encE_def, if_pos hxv]; exact hee
      have hEy : encE e (cutM n b[0].length b) = ee := by rw [encE_def, if_pos hyv]; exact hee
      have hz1 := encS_size e false (cutM 0 n b)
      have hz2 := encS_size e false (cutM n b[0].length b)
      repeat' ((conv => whnf); first | (apply light_v; (· exact mtA); (· with_reducible assumption)) | (apply refValid_v; (· exact mtA); (· with_reducible assumption)) | rw [and_24] | rw [hn] | (refine partF_c (f := 0) (t := n) hb hRows ?_ ?_ (fun H1 p1 hle1 hx1 => ?_); (· omega); (· omega)) | (refine partF_c (f := n) (t := b[0].length) (hb.kp hle1.kp) hRows ?_ ?_ (fun H2 p2 hle2 hy2 => ?_); (· omega); (· omega)) | ((first | (apply vB; (case h => with_reducible assumption)) | (apply vA; (case h => with_reducible assumption)) | (apply vC; (case h => with_reducible assumption))); (case hk => exact kpA); (case he => omega)) | ((first | (apply vI; (case h => with_reducible assumption)) | (apply vG; (case h => with_reducible assumption)) | (apply vK; (case h => with_reducible assumption))); (case hk => exact kpA); (case he => omega); (case hp => omega); (case' g => intro hr_ hc_)) | ((first | (apply vJ; (case h => with_reducible assumption)) | (apply vH; (case h => with_reducible assumption)) | (apply vL; (case h => with_reducible assumption))); (case hk => exact kpA); (case he => omega); (case' g => intro hr_ hc_)) | (apply drawS_auto mixed tt_ok; (· kernel_rfl)) | apply zZ | apply yA | apply yB | ((first | apply zA | apply zC | apply zE | apply zG); (· with_reducible assumption)) | ((first | apply zB | apply zD | apply zF | apply zH); (· with_reducible assumption)) | apply zM | apply zN | apply zO | apply zP | apply zQ | apply zR | apply zS | apply zT | apply zU | (apply zV; (· omega)) | (apply zW; (· omega)) | (apply zX; (· (first | omega | (dsimp only; omega)))) | (apply zY; (try (apply zY; apply zX; (· omega))); apply zX; (· omega); apply zX; (· (first | omega | (dsimp only; omega)))) | ((first | apply yJ | apply yK | apply yL | apply yM | apply yN | apply yO); (· exact hgA); (· exact hsA)) | (apply yNP; (· exact hgA); (· exact hsA)) | ((first | apply zA | apply zC | apply zE | apply zG); (· omega)) | ((first | apply zB | apply zD | apply zF | apply zH); (· omega)) | ((first | apply zI | apply zK); (· with_reducible assumption)) | ((first | apply zJ | apply zL); (· with_reducible assumption)) | ((first | apply xA | apply xC | apply xE | apply xG); (· first | assumption | rfl)) | ((first | apply xB | apply xD | apply xF | apply xH); (· first | assumption | kernel_rfl)) | fail)
      conv => whnf
      have hb2 := (hb.kp hle1.kp).kp hle2.kp
      have hx2 := hx1.kp hle2.kp
      repeat' ((conv => whnf); first | refine encode_w (b := b) rfl hEb hb2 (fun H3 hle3 => ?_) | refine encode_w (b := cutM 0 n b) hxl hEx (hx2.kp hle3.kp) (fun H4 hle4 => ?_) | refine encode_w (b := cutM n b[0].length b) hyl hEy ((hy2.kp hle3.kp).kp hle4.kp) (fun H5 hle5 => ?_) | ((first | (apply vB; (case h => with_reducible assumption)) | (apply vA; (case h => with_reducible assumption)) | (apply vC; (case h => with_reducible assumption))); (case hk => exact kpA); (case he => omega)) | ((first | (apply vI; (case h => with_reducible assumption)) | (apply vG; (case h => with_reducible assumption)) | (apply vK; (case h => with_reducible assumption))); (case hk => exact kpA); (case he => omega); (case hp => omega); (case' g => intro hr_ hc_)) | ((first | (apply vJ; (case h => with_reducible assumption)) | (apply vH; (case h => with_reducible assumption)) | (apply vL; (case h => with_reducible assumption))); (case hk => exact kpA); (case he => omega); (case' g => intro hr_ hc_)) | (apply drawS_auto mixed tt_ok; (· kernel_rfl)) | apply zZ | apply yA | apply yB | ((first | apply zA | apply zC | apply zE | apply zG); (· with_reducible assumption)) | ((first | apply zB | apply zD | apply zF | apply zH); (· with_reducible assumption)) | apply zM | apply zN | apply zO | apply zP | apply zQ | apply zR | apply zS | apply zT | apply zU | (apply zV; (· omega)) | (apply zW; (· omega)) | (apply zX; (· (first | omega | (dsimp only; omega)))) | (apply zY; (try (apply zY; apply zX; (· omega))); apply zX; (· omega); apply zX; (· (first | omega | (dsimp only; omega)))) | ((first | apply yJ | apply yK | apply yL | apply yM | apply yN | apply yO); (· exact hgA); (· exact hsA)) | (apply yNP; (· exact hgA); (· exact hsA)) | ((first | apply zA | apply zC | apply zE | apply zG); (· omega)) | ((first | apply zB | apply zD | apply zF | apply zH); (· omega)) | ((first | apply zI | apply zK); (· with_reducible assumption)) | ((first | apply zJ | apply zL); (· with_reducible assumption)) | ((first | apply xA | apply xC | apply xE | apply xG); (· first | assumption | rfl)) | ((first | apply xB | apply xD | apply xF | apply xH); (· first | assumption | kernel_rfl)) | fail)
      conv => whnf
      have hb5 := ((hb2.kp hle3.kp).kp hle4.kp).kp hle5.kp
      have hx5 := ((hx2.kp hle3.kp).kp hle4.kp).kp hle5.kp
      have hy5 := ((hy2.kp hle3.kp).kp hle4.kp).kp hle5.kp
      by_cases h0 : newE e seed b.length = 0
      · obtain ⟨he, h4, hseed⟩ := newE_ok h0
        have hZl : b.length = (List.replicate b.length (0 : Int)).length := List.length_replicate.symm
        obtain ⟨hsd, hsE⟩ := dithS_split (e := e) (sh := sh) (R := seed) (E := List.replicate b.length 0) (n := n) hv (by omega) hZl
        rw [hfr] at hsd hsE
        have hok := okE_zero b.length
        have hE1 := dithE_ok (e := e) (sh := sh) (b := cutM 0 n b) (R := seed) hok
        have hR1 := dithR_bd (b := cutM 0 n b) (E := List.replicate b.length 0) hseed
        have hl1 := dithE_len e sh (cutM 0 n b) seed (List.replicate b.length 0)
        rw [List.length_replicate] at hl1
        have hs1 := dithS_size (e := e) (sh := sh) (pl := false) (b := cutM 0 n b) (R := seed) (E := List.replicate b.length 0) he
        have hs2 := dithS_size (e := e) (sh := sh) (pl := false) (b := cutM n b[0].length b) (R := dithR (cutM 0 n b) seed (List.replicate b.length 0)) (E := dithE e sh (cutM 0 n b) seed (List.replicate b.length 0)) he
        have hCb := dithC_ok hv hZl
        have hCx := dithC_ok (E := List.replicate b.length 0) hxv (by rw [hxl]; exact hZl)
        have hCy := dithC_ok (E := dithE e sh (cutM 0 n b) seed (List.replicate b.length 0)) hyv (by rw [hyl, hl1])
        repeat' ((conv => whnf); first | refine newDither_ok (H := H5) h0 (fun H6 d1 o1 hle6 hd1 ho1 hD1 => ?_) | refine newDither_ok (H := H6) h0 (fun H7 d2 o2 hle7 hd2 ho2 hD2 => ?_) | ((first | (apply vB; (case h => with_reducible assumption)) | (apply vA; (case h => with_reducible assumption)) | (apply vC; (case h => with_reducible assumption))); (case hk => exact kpA); (case he => omega)) | ((first | (apply vI; (case h => with_reducible assumption)) | (apply vG; (case h => with_reducible assumption)) | (apply vK; (case h => with_reducible assumption))); (case hk => exact kpA); (case he => omega); (case hp => omega); (case' g => intro hr_ hc_)) | ((first | (apply vJ; (case h => with_reducible assumption)) | (apply vH; (case h => with_reducible assumption)) | (apply vL; (case h => with_reducible assumption))); (case hk => exact kpA); (case he => omega); (case' g => intro hr_ hc_)) | (apply drawS_auto mixed tt_ok; (· kernel_rfl)) | apply zZ | apply yA | apply yB | ((first | apply zA | apply zC | apply zE | apply zG); (· with_reducible assumption)) | ((first | apply zB | apply zD | apply zF | apply zH); (· with_reducible assumption)) | apply zM | apply zN | apply zO | apply zP | apply zQ | apply zR | apply zS | apply zT | apply zU | (apply zV; (· omega)) | (apply zW; (· omega)) | (apply zX; (· (first | omega | (dsimp only; omega)))) | (apply zY; (try (apply zY; apply zX; (· omega))); apply zX; (· omega); apply zX; (· (first | omega | (dsimp only; omega)))) | ((first | apply yJ | apply yK | apply yL | apply yM | apply yN | apply yO); (· exact hgA); (· exact hsA)) | (apply yNP; (· exact hgA); (· exact hsA)) | ((first | apply zA | apply zC | apply zE | apply zG); (· omega)) | ((first | apply zB | apply zD | apply zF | apply zH); (· omega)) | ((first | apply zI | apply zK); (· with_reducible assumption)) | ((first | apply zJ | apply zL); (· with_reducible assumption)) | ((first | apply xA | apply xC | apply xE | apply xG); (· first | assumption | rfl)) | ((first | apply xB | apply xD | apply xF | apply xH); (· first | assumption | kernel_rfl)) | fail)
        conv => whnf
        have ld1 := hD1.ld
        have lo1 := hD1.lo
        have hD17 := hD1.le hle7
        have hb7 := (hb5.kp hle6.kp).kp hle7.kp
        have hx7 := (hx5.kp hle6.kp).kp hle7.kp
        have hy7 := (hy5.kp hle6.kp).kp hle7.kp
        repeat' ((conv => whnf); first | refine dEnc_w (b := b) rfl he h4 hseed hok hb7 hD17 hCb (fun H8 hs8 hsame8 hD18 => ?_) | ((first | (apply vB; (case h => with_reducible assumption)) | (apply vA; (case h => with_reducible assumption)) | (apply vC; (case h => with_reducible assumption))); (case hk => exact kpA); (case he => omega)) | ((first | (apply vI; (case h => with_reducible assumption)) | (apply vG; (case h => with_reducible assumption)) | (apply vK; (case h => with_reducible assumption))); (case hk => exact kpA); (case he => omega); (case hp => omega); (case' g => intro hr_ hc_)) | ((first | (apply vJ; (case h => with_reducible assumption)) | (apply vH; (case h => with_reducible assumption)) | (apply vL; (case h => with_reducible assumption))); (case hk => exact kpA); (case he => omega); (case' g => intro hr_ hc_)) | (apply drawS_auto mixed tt_ok; (· kernel_rfl)) | apply zZ | apply yA | apply yB | ((first | apply zA | apply zC | apply zE | apply zG); (· with_reducible assumption)) | ((first | apply zB | apply zD | apply zF | apply zH); (· with_reducible assumption)) | apply zM | apply zN | apply zO | apply zP | apply zQ | apply zR | apply zS | apply zT | apply zU | (apply zV; (· omega)) | (apply zW; (· omega)) | (apply zX; (· (first | omega | (dsimp only; omega)))) | (apply zY; (try (apply zY; apply zX; (· omega))); apply zX; (· omega); apply zX; (· (first | omega | (dsimp only; omega)))) | ((first | apply yJ | apply yK | apply yL | apply yM | apply yN | apply yO); (· exact hgA); (· exact hsA)) | (apply yNP; (· exact hgA); (· exact hsA)) | ((first | apply zA | apply zC | apply zE | apply zG); (· omega)) | ((first | apply zB | apply zD | apply zF | apply zH); (· omega)) | ((first | apply zI | apply zK); (· with_reducible assumption)) | ((first | apply zJ | apply zL); (· with_reducible assumption)) | ((first | apply xA | apply xC | apply xE | apply xG); (· first | assumption | rfl)) | ((first | apply xB | apply xD | apply xF | apply xH); (· first | assumption | kernel_rfl)) | fail)
        conv => whnf
        have hk8 := hD17.keep hs8 hsame8
        have hD28 := hD2.other hs8 hsame8 (by omega) (by omega) (by omega) (by omega)
        repeat' ((conv => whnf); first | refine dEnc_w (b := cutM 0 n b) hxl he h4 hseed hok (hx7.kp hk8) hD28 hCx (fun H9 hs9 hsame9 hD29 => ?_) | ((first | (apply vB; (case h => with_reducible assumption)) | (apply vA; (case h => with_reducible assumption)) | (apply vC; (case h => with_reducible assumption))); (case hk => exact kpA); (case he => omega)) | ((first | (apply vI; (case h => with_reducible assumption)) | (apply vG; (case h => with_reducible assumption)) | (apply vK; (case h => with_reducible assumption))); (case hk => exact kpA); (case he => omega); (case hp => omega); (case' g => intro hr_ hc_)) | ((first | (apply vJ; (case h => with_reducible assumption)) | (apply vH; (case h => with_reducible assumption)) | (apply vL; (case h => with_reducible assumption))); (case hk => exact kpA); (case he => omega); (case' g => intro hr_ hc_)) | (apply drawS_auto mixed tt_ok; (· kernel_rfl)) | apply zZ | apply yA | apply yB | ((first | apply zA | apply zC | apply zE | apply zG); (· with_reducible assumption)) | ((first | apply zB | apply zD | apply zF | apply zH); (· with_reducible assumption)) | apply zM | apply zN | apply zO | apply zP | apply zQ | apply zR | apply zS | apply zT | apply zU | (apply zV; (· omega)) | (apply zW; (· omega)) | (apply zX; (· (first | omega | (dsimp only; omega)))) | (apply zY; (try (apply zY; apply zX; (· omega))); apply zX; (· omega); apply zX; (· (first | omega | (dsimp only; omega)))) | ((first | apply yJ | apply yK | apply yL | apply yM | apply yN | apply yO); (· exact hgA); (· exact hsA)) | (apply yNP; (· exact hgA); (· exact hsA)) | ((first | apply zA | apply zC | apply zE | apply zG); (· omega)) | ((first | apply zB | apply zD | apply zF | apply zH); (· omega)) | ((first | apply zI | apply zK); (· with_reducible assumption)) | ((first | apply zJ | apply zL); (· with_reducible assumption)) | ((first | apply xA | apply xC | apply xE | apply xG); (· first | assumption | rfl)) | ((first | apply xB | apply xD | apply xF | apply xH); (· first | assumption | kernel_rfl)) | fail)
        conv => whnf
        have hk9 := hD28.keep hs9 hsame9
        have hD19 := hD18.other hs9 hsame9 (by omega) (by omega) (by omega) (by omega)
        repeat' ((conv => whnf); first | refine dEnc_w (b := cutM n b[0].length b) hyl he h4 hR1 hE1 ((hy7.kp hk8).kp hk9) hD29 hCy (fun H10 hs10 hsame10 hD210 => ?_) | ((first | (apply vB; (case h => with_reducible assumption)) | (apply vA; (case h => with_reducible assumption)) | (apply vC; (case h => with_reducible assumption))); (case hk => exact kpA); (case he => omega)) | ((first | (apply vI; (case h => with_reducible assumption)) | (apply vG; (case h => with_reducible assumption)) | (apply vK; (case h => with_reducible assumption))); (case hk => exact kpA); (case he => omega); (case hp => omega); (case' g => intro hr_ hc_)) | ((first | (apply vJ; (case h => with_reducible assumption)) | (apply vH; (case h => with_reducible assumption)) | (apply vL; (case h => with_reducible assumption))); (case hk => exact kpA); (case he => omega); (case' g => intro hr_ hc_)) | (apply drawS_auto mixed tt_ok; (· kernel_rfl)) | apply zZ | apply yA | apply yB | ((first | apply zA | apply zC | apply zE | apply zG); (· with_reducible assumption)) | ((first | apply zB | apply zD | apply zF | apply zH); (· with_reducible assumption)) | apply zM | apply zN | apply zO | apply zP | apply zQ | apply zR | apply zS | apply zT | apply zU | (apply zV; (· omega)) | (apply zW; (· omega)) | (apply zX; (· (first | omega | (dsimp only; omega)))) | (apply zY; (try (apply zY; apply zX; (· omega))); apply zX; (· omega); apply zX; (· (first | omega | (dsimp only; omega)))) | ((first | apply yJ | apply yK | apply yL | apply yM | apply yN | apply yO); (· exact hgA); (· exact hsA)) | (apply yNP; (· exact hgA); (· exact hsA)) | ((first | apply zA | apply zC | apply zE | apply zG); (· omega)) | ((first | apply zB | apply zD | apply zF | apply zH); (· omega)) | ((first | apply zI | apply zK); (· with_reducible assumption)) | ((first | apply zJ | apply zL); (· with_reducible assumption)) | ((first | apply xA | apply xC | apply xE | apply xG); (· first | assumption | rfl)) | ((first | apply xB | apply xD | apply xF | apply xH); (· first | assumption | kernel_rfl)) | fail)
        conv => whnf
        have hD110 := hD19.other hs10 hsame10 (by omega) (by omega) (by omega) (by omega)
        have hokb := dithE_ok (e := e) (sh := sh) (b := b) (R := seed) hok
        have hoky := dithE_ok (e := e) (sh := sh) (b := cutM n b[0].length b) (R := dithR (cutM 0 n b) seed (List.replicate b.length 0)) hE1
        have hlb := dithE_len e sh b seed (List.replicate b.length 0)
        have hly := dithE_len e sh (cutM n b[0].length b) (dithR (cutM 0 n b) seed (List.replicate b.length 0)) (dithE e sh (cutM 0 n b) seed (List.replicate b.length 0))
        rw [List.length_replicate] at hlb
        rw [hl1] at hly
        repeat' ((conv => whnf); first | (refine errors_w (d := d1) rfl hlb ?_ (okE_inR hokb) hD110 (fun H11 p11 c11 hle11 hr11 => ?_); (· omega)) | (refine errors_w (d := d2) hsE hly ?_ (okE_inR hoky) (hD210.le hle11) (fun H12 p12 c12 hle12 hr12 => ?_); (· omega)) | refine sameRow_w (hr11.kp hle12.kp) hr12 hlb hlb ?_ | (apply awake_c) | ((first | (apply vB; (case h => with_reducible assumption)) | (apply vA; (case h => with_reducible assumption)) | (apply vC; (case h => with_reducible assumption))); (case hk => exact kpA); (case he => omega)) | ((first | (apply vI; (case h => with_reducible assumption)) | (apply vG; (case h => with_reducible assumption)) | (apply vK; (case h => with_reducible assumption))); (case hk => exact kpA); (case he => omega); (case hp => omega); (case' g => intro hr_ hc_)) | ((first | (apply vJ; (case h => with_reducible assumption)) | (apply vH; (case h => with_reducible assumption)) | (apply vL; (case h => with_reducible assumption))); (case hk => exact kpA); (case he => omega); (case' g => intro hr_ hc_)) | (apply drawS_auto mixed tt_ok; (· kernel_rfl)) | apply zZ | apply yA | apply yB | ((first | apply zA | apply zC | apply zE | apply zG); (· with_reducible assumption)) | ((first | apply zB | apply zD | apply zF | apply zH); (· with_reducible assumption)) | apply zM | apply zN | apply zO | apply zP | apply zQ | apply zR | apply zS | apply zT | apply zU | (apply zV; (· omega)) | (apply zW; (· omega)) | (apply zX; (· (first | omega | (dsimp only; omega)))) | (apply zY; (try (apply zY; apply zX; (· omega))); apply zX; (· omega); apply zX; (· (first | omega | (dsimp only; omega)))) | ((first | apply yJ | apply yK | apply yL | apply yM | apply yN | apply yO); (· exact hgA); (· exact hsA)) | (apply yNP; (· exact hgA); (· exact hsA)) | ((first | apply zA | apply zC | apply zE | apply zG); (· omega)) | ((first | apply zB | apply zD | apply zF | apply zH); (· omega)) | ((first | apply zI | apply zK); (· with_reducible assumption)) | ((first | apply zJ | apply zL); (· with_reducible assumption)) | ((first | apply xA | apply xC | apply xE | apply xG); (· first | assumption | rfl)) | ((first | apply xB | apply xD | apply xF | apply xH); (· first | assumption | kernel_rfl)) | fail)
        conv => whnf
      · have h01 : ¬ (0 = newE e seed b.length) := fun h => h0 h.symm
        repeat' ((conv => whnf); first | refine newDither_no h0 (fun H6 hle6 => ?_) | (apply awake_c) | ((first | (apply vB; (case h => with_reducible assumption)) | (apply vA; (case h => with_reducible assumption)) | (apply vC; (case h => with_reducible assumption))); (case hk => exact kpA); (case he => omega)) | ((first | (apply vI; (case h => with_reducible assumption)) | (apply vG; (case h => with_reducible assumption)) | (apply vK; (case h => with_reducible assumption))); (case hk => exact kpA); (case he => omega); (case hp => omega); (case' g => intro hr_ hc_)) | ((first | (apply vJ; (case h => with_reducible assumption)) | (apply vH; (case h => with_reducible assumption)) | (apply vL; (case h => with_reducible assumption))); (case hk => exact kpA); (case he => omega); (case' g => intro hr_ hc_)) | (apply drawS_auto mixed tt_ok; (· kernel_rfl)) | apply zZ | apply yA | apply yB | ((first | apply zA | apply zC | apply zE | apply zG); (· with_reducible assumption)) | ((first | apply zB | apply zD | apply zF | apply zH); (· with_reducible assumption)) | apply zM | apply zN | apply zO | apply zP | apply zQ | apply zR | apply zS | apply zT | apply zU | (apply zV; (· omega)) | (apply zW; (· omega)) | (apply zX; (· (first | omega | (dsimp only; omega)))) | (apply zY; (try (apply zY; apply zX; (· omega))); apply zX; (· omega); apply zX; (· (first | omega | (dsimp only; omega)))) | ((first | apply yJ | apply yK | apply yL | apply yM | apply yN | apply yO); (· exact hgA); (· exact hsA)) | (apply yNP; (· exact hgA); (· exact hsA)) | ((first | apply zA | apply zC | apply zE | apply zG); (· omega)) | ((first | apply zB | apply zD | apply zF | apply zH); (· omega)) | ((first | apply zI | apply zK); (· with_reducible assumption)) | ((first | apply zJ | apply zL); (· with_reducible assumption)) | ((first | apply xA | apply xC | apply xE | apply xG); (· first | assumption | rfl)) | ((first | apply xB | apply xD | apply xF | apply xH); (· first | assumption | kernel_rfl)) | fail)
        conv => whnf
theorem sampleApart_acall {DH : Type} (ds : List (DataW DH)) (H : AHeap) (vs : List Value) (h : ReadsArgs tt H [3, 3, 4, 30, 3] vs ds) : ACall P 5 vs H (fun e _ => e = .returned (.bool true)) := by
  obtain ⟨v, vs, d, ds, rfl, rfl, h1, h⟩ := readsArgs_cons h
  obtain ⟨v, vs, d, ds, rfl, rfl, h2, h⟩ := readsArgs_cons h
  obtain ⟨v, vs, d, ds, rfl, rfl, h3, h⟩ := readsArgs_cons h
  obtain ⟨v, vs, d, ds, rfl, rfl, h4, h⟩ := readsArgs_cons h
  obtain ⟨v, vs, d, ds, rfl, rfl, h5, h⟩ := readsArgs_cons h
  cases readsArgs_nil h
  obtain ⟨e, rfl, _⟩ := arg_int h1 rfl
  obtain ⟨seed, rfl, _⟩ := arg_int h2 rfl
  obtain ⟨sh, rfl⟩ := arg_bool h3 rfl
  obtain ⟨p, c, b, rfl, hb⟩ := arg_sl h4 rfl rfl (dec_slice rfl rfl (dec_int rfl))
  obtain ⟨at_, rfl, _⟩ := arg_int h5 rfl
  exact apart_law hb
theorem sampleApart_lifted (os : Os) (started : os.Started) (DH : Type) (enc : TypeId × Value → DH) :
    ReturnsInHanded {} Try.checked os 5 .any (Rows.sampleApartSpec.pre6 enc Try.prog Try.f5 [] false) (Rows.sampleApartSpec.post enc Try.prog Try.f5 false true false false) :=
  law_returns (C := Try.checked) (m := 12) Try.own2 started (by kernel_rfl) Try.func5
    (ChangeSpec.witness6 (enc := enc) (C := Try.checked) false ⟨#[], #[.int .i64 0, .int .i64 0, .bool false, .slice none 0 0, .int .i64 0], []⟩ 8 (by kernel_rfl) (by kernel_rfl) (by kernel_rfl) (by kernel_rfl))
    tt_ok (by kernel_rfl) rfl (by kernel_rfl) rfl (by kernel_rfl)
    (fun ds hl => by match ds, hl with | [d0, d1, d2, d3, d4], _ => exact ⟨rfl, rfl, rfl⟩)
    (fun ds H vs hs h => sampleApart_acall ds H vs h)
theorem sampleApart_holds : Rows.SampleApartSaid :=
  OpenClaim.holds_of_wide 5 Try.f5 rfl rfl rfl rfl rfl rfl rfl ⟨rfl, rfl, rfl, rfl, rfl⟩ rfl rfl rfl rfl rfl (by kernel_rfl) Try.func5 (by kernel_rfl)
    (of_decide_eq_true (by kernel_rfl)) (by unfold Func.isWrapper; rw [if_neg (by decide +kernel)]; exact ⟨rfl, rfl⟩)
    (fun os started H enc _ => sampleApart_lifted os started H enc)
end Go.Abs
namespace Go.Proofs.Ythjmijjppaebgaa
theorem sampleApartProved : Rows.SampleApartSaid := Go.Abs.sampleApart_holds
end Go.Proofs.Ythjmijjppaebgaa
