/- Contracts of the program's dither: its random numbers, its making, its errors and its copy. -/
import Derived.Test.YthjmijjppaebgaaW04
set_option linter.all false
set_option maxHeartbeats 1000000
set_option maxRecDepth 20000
namespace Go.Abs
open Go Go.Proofs

def nxt (R : Int) : Int := (R * 1103515245 + 12345).tmod 2147483648
theorem nxt_bd {R : Int} (hR : 0 ≤ R ∧ R < 2147483648) : 0 ≤ nxt R ∧ nxt R < 2147483648 := by
  unfold nxt
  rw [Int.tmod_eq_emod_of_nonneg (by omega)]
  omega
abbrev inD (R : Int) : Prop := 0 ≤ R ∧ R < 2147483648
theorem next_c {d : Nat} {R : Int} {c1 c2 c3 : Value} {H : AHeap} {K : CK} (hR : inD R) (hd : d < H.size) (hg : H.get d = some (.cells [iv R, c1, c2, c3] true 0))
    (h : K (.returned (iv (nxt R))) (H.set d (.cells [iv (nxt R), c1, c2, c3] true 0))) : callS P (fnV 61) [.pointer (some ⟨d, 0, none⟩)] H K := by
  refine callS_walk tt_ok Try.func61 rfl (by kernel_rfl) ?_
  conv => whnf
  repeat' ((conv => whnf); first | ((first | (apply vB; (case h => with_reducible assumption)) | (apply vA; (case h => with_reducible assumption)) | (apply vC; (case h => with_reducible assumption))); (case hk => exact kpA); (case he => omega)) | ((first | (apply vI; (case h => with_reducible assumption)) | (apply vG; (case h => with_reducible assumption)) | (apply vK; (case h => with_reducible assumption))); (case hk => exact kpA); (case he => omega); (case hp => omega); (case' g => intro hr_ hc_)) | ((first | (apply vJ; (case h => with_reducible assumption)) | (apply vH; (case h => with_reducible assumption)) | (apply vL; (case h => with_reducible assumption))); (case hk => exact kpA); (case he => omega); (case' g => intro hr_ hc_)) | apply yA | apply yB | ((first | apply zA | apply zC | apply zE | apply zG); (· with_reducible assumption)) | ((first | apply zB | apply zD | apply zF | apply zH); (· with_reducible assumption)) | apply zM | apply zN | apply zO | apply zP | apply zQ | apply zR | apply zS | apply zT | apply zU | (apply zV; (· omega)) | (apply zW; (· omega)) | (apply zX; (· (first | omega | (dsimp only; omega)))) | (apply zY; (try (apply zY; apply zX; (· omega))); apply zX; (· omega); apply zX; (· (first | omega | (dsimp only; omega)))) | ((first | apply yJ | apply yK | apply yL | apply yM | apply yN | apply yO); (· exact hgA); (· exact hsA)) | (apply yNP; (· exact hgA); (· exact hsA)) | ((first | apply zA | apply zC | apply zE | apply zG); (· omega)) | ((first | apply zB | apply zD | apply zF | apply zH); (· omega)) | ((first | apply zI | apply zK); (· with_reducible assumption)) | ((first | apply zJ | apply zL); (· with_reducible assumption)) | fail)
  conv => whnf
  exact h
structure DitN (H : AHeap) (d o : Nat) (e : Int) (sh : Bool) (R : Int) (E : List Int) : Prop where
  ne : d ≠ o
  ld : d < H.size
  lo : o < H.size
  gd : H.get d = some (.cells [iv R, iv e, .bool sh, .slice (some ⟨o, 0, none⟩) E.length E.length] true 0)
  go : H.get o = some (.cells (E.map (Value.int .i64)) true 1)
theorem DitN.le {H H' : AHeap} {d o : Nat} {e : Int} {sh : Bool} {R : Int} {E : List Int} (h : DitN H d o e sh R E) (hl : H.le H') : DitN H' d o e sh R E :=
  ⟨h.ne, Nat.lt_of_lt_of_le h.ld hl.size, Nat.lt_of_lt_of_le h.lo hl.size, (hl.get d h.ld).trans h.gd, (hl.get o h.lo).trans h.go⟩
theorem cloneO_c {o : Nat} {xs : List Int} (hn : xs.length ≤ 1000000) {H : AHeap} {K : CK} (ho : o < H.size) (hg : H.get o = some (.cells (xs.map (Value.int .i64)) true 1))
    (h : ∀ H', H.le H' → H'.size = H.size + 2 → H'.get (H.size + 1) = some (.cells (xs.map (Value.int .i64)) true 1) → K (.returned (.slice (some ⟨H.size + 1, 0, none⟩) xs.length xs.length)) H') :
    callS P (fnV 66) [.slice (some ⟨o, 0, none⟩) xs.length xs.length] H K := by
  refine callS_walk tt_ok Try.func66 rfl (by kernel_rfl) ?_
  conv => whnf
  repeat' ((conv => whnf); first | apply yA | apply yB | ((first | apply zA | apply zC | apply zE | apply zG); (· with_reducible assumption)) | ((first | apply zB | apply zD | apply zF | apply zH); (· with_reducible assumption)) | apply zM | apply zN | apply zO | apply zP | apply zQ | apply zR | apply zS | apply zT | apply zU | (apply zV; (· omega)) | (apply zW; (· omega)) | (apply zX; (· (first | omega | (dsimp only; omega)))) | (apply zY; (try (apply zY; apply zX; (· omega))); apply zX; (· omega); apply zX; (· (first | omega | (dsimp only; omega)))) | ((first | apply yJ | apply yK | apply yL | apply yM | apply yN | apply yO); (· exact hgA); (· exact hsA)) | (apply yNP; (· exact hgA); (· exact hsA)) | ((first | apply zA | apply zC | apply zE | apply zG); (· omega)) | ((first | apply zB | apply zD | apply zF | apply zH); (· omega)) | ((first | apply zI | apply zK); (· with_reducible assumption)) | ((first | apply zJ | apply zL); (· with_reducible assumption)) | fail)
  conv => whnf
  rw [Nat.zero_add]
  exact h _ leA rfl hgA
theorem zeroRow_rep (n : Nat) : zeroRow n [Value.int .i64 0] = (List.replicate n (0 : Int)).map (Value.int .i64) := by
  apply List.ext_getElem?
  intro k
  by_cases hk : k < n
  · rw [zeroRow_get _ _ _ (by simpa using hk)]
    simp [hk, Nat.mod_one]
  · rw [List.getElem?_eq_none (by rw [zeroRow_length]; simp; omega), List.getElem?_eq_none (by simp; omega)]
def newE (e seed C : Int) : Int := if enc e ∧ (1 ≤ C ∧ C ≤ 8) ∧ (1 ≤ seed ∧ seed ≤ 2147483647) then if e ≤ 4 then 0 else 10 else 7
theorem newDither_ok {e seed : Int} {n : Nat} {sh : Bool} {H : AHeap} {K : CK} (h0 : newE e seed n = 0)
    (h : ∀ H' d o, H.le H' → H.size ≤ d → H.size ≤ o → DitN H' d o e sh seed (List.replicate n 0) → K (.returned (.tuple #[.pointer (some ⟨d, 0, none⟩), iv 0])) H') : callS P (fnV 21) [iv e, iv seed, iv n, .bool sh] H K := by
  unfold newE at h0
  by_cases hc : enc e ∧ (1 ≤ (n : Int) ∧ (n : Int) ≤ 8) ∧ (1 ≤ seed ∧ seed ≤ 2147483647)
  · rw [if_pos hc] at h0
    obtain ⟨he, hC, hS⟩ := hc
    have h4 : e ≤ 4 := by
      by_cases h4 : e ≤ 4
      · exact h4
      · rw [if_neg h4] at h0; omega
    obtain ⟨b, hb⟩ : ∃ b, bitsF e = b := ⟨_, rfl⟩
    have hb16 : b ≤ 16 := by rw [← hb]; unfold bitsF; omega
    refine callS_walk tt_ok Try.func21 rfl (by kernel_rfl) ?_
    conv => whnf
    repeat' ((conv => whnf); first | refine known_t he ?_ | refine within_t hC ?_ | refine within_t hS ?_ | (apply codings_c) | (refine loadK_cod he ?_ ?_; (· exact hgA)) | refine bits_v he hb ?_ | ((first | (apply vB; (case h => with_reducible assumption)) | (apply vA; (case h => with_reducible assumption)) | (apply vC; (case h => with_reducible assumption))); (case hk => exact kpA); (case he => omega)) | ((first | (apply vI; (case h => with_reducible assumption)) | (apply vG; (case h => with_reducible assumption)) | (apply vK; (case h => with_reducible assumption))); (case hk => exact kpA); (case he => omega); (case hp => omega); (case' g => intro hr_ hc_)) | ((first | (apply vJ; (case h => with_reducible assumption)) | (apply vH; (case h => with_reducible assumption)) | (apply vL; (case h => with_reducible assumption))); (case hk => exact kpA); (case he => omega); (case' g => intro hr_ hc_)) | (apply drawS_auto mixed tt_ok; (· kernel_rfl)) | apply zZ | apply yA | apply yB | ((first | apply zA | apply zC | apply zE | apply zG); (· with_reducible assumption)) | ((first | apply zB | apply zD | apply zF | apply zH); (· with_reducible assumption)) | apply zM | apply zN | apply zO | apply zP | apply zQ | apply zR | apply zS | apply zT | apply zU | (apply zV; (· omega)) | (apply zW; (· omega)) | (apply zX; (· (first | omega | (dsimp only; omega)))) | (apply zY; (try (apply zY; apply zX; (· omega))); apply zX; (· omega); apply zX; (· (first | omega | (dsimp only; omega)))) | ((first | apply yJ | apply yK | apply yL | apply yM | apply yN | apply yO); (· exact hgA); (· exact hsA)) | (apply yNP; (· exact hgA); (· exact hsA)) | ((first | apply zA | apply zC | apply zE | apply zG); (· omega)) | ((first | apply zB | apply zD | apply zF | apply zH); (· omega)) | ((first | apply zI | apply zK); (· with_reducible assumption)) | ((first | apply zJ | apply zL); (· with_reducible assumption)) | fail)
    conv => whnf
    rw [Int.toNat_natCast]
    refine h _ _ (H.size + 1) leA ?_ ?_ ⟨?_, ?_, ?_, ?_, ?_⟩
    · simp; omega
    · simp
    · simp
    · simp
    · simp
    · simp only [List.length_replicate]
      exact AHeap.push_at _ _ (by simp)
    · refine (AHeap.push_ne _ _ (by simp)).trans ?_
      refine (AHeap.push_at _ _ (by simp)).trans ?_
      exact congrArg (fun z => some (AObj.cells z true 1)) (zeroRow_rep n)
  · rw [if_neg hc] at h0; omega
theorem newDither_no {e seed C : Int} {sh : Bool} {H : AHeap} {K : CK} (h0 : newE e seed C ≠ 0)
    (h : ∀ H', H.le H' → K (.returned (.tuple #[.pointer none, iv (newE e seed C)])) H') : callS P (fnV 21) [iv e, iv seed, iv C, .bool sh] H K := by
  by_cases he : enc e
  · by_cases hC : 1 ≤ C ∧ C ≤ 8
    · by_cases hS : 1 ≤ seed ∧ seed ≤ 2147483647
      · have hE : newE e seed C = if e ≤ 4 then 0 else 10 := by unfold newE; rw [if_pos ⟨he, hC, hS⟩]
        have h4 : ¬ e ≤ 4 := fun h4 => by rw [hE, if_pos h4] at h0; exact h0 rfl
        rw [hE, if_neg h4] at h
        obtain ⟨b, hb⟩ : ∃ b, bitsF e = b := ⟨_, rfl⟩
        have hb16 : 16 < b := by rw [← hb]; unfold bitsF; omega
        refine callS_walk tt_ok Try.func21 rfl (by kernel_rfl) ?_
        conv => whnf
        repeat' ((conv => whnf); first | refine known_t he ?_ | refine within_t hC ?_ | refine within_t hS ?_ | (apply codings_c) | (refine loadK_cod he ?_ ?_; (· exact hgA)) | refine bits_v he hb ?_ | ((first | (apply vB; (case h => with_reducible assumption)) | (apply vA; (case h => with_reducible assumption)) | (apply vC; (case h => with_reducible assumption))); (case hk => exact kpA); (case he => omega)) | ((first | (apply vI; (case h => with_reducible assumption)) | (apply vG; (case h => with_reducible assumption)) | (apply vK; (case h => with_reducible assumption))); (case hk => exact kpA); (case he => omega); (case hp => omega); (case' g => intro hr_ hc_)) | ((first | (apply vJ; (case h => with_reducible assumption)) | (apply vH; (case h => with_reducible assumption)) | (apply vL; (case h => with_reducible assumption))); (case hk => exact kpA); (case he => omega); (case' g => intro hr_ hc_)) | (apply drawS_auto mixed tt_ok; (· kernel_rfl)) | apply zZ | apply yA | apply yB | ((first | apply zA | apply zC | apply zE | apply zG); (· with_reducible assumption)) | ((first | apply zB | apply zD | apply zF | apply zH); (· with_reducible assumption)) | apply zM | apply zN | apply zO | apply zP | apply zQ | apply zR | apply zS | apply zT | apply zU | (apply zV; (· omega)) | (apply zW; (· omega)) | (apply zX; (· (first | omega | (dsimp only; omega)))) | (apply zY; (try (apply zY; apply zX; (· omega))); apply zX; (· omega); apply zX; (· (first | omega | (dsimp only; omega)))) | ((first | apply yJ | apply yK | apply yL | apply yM | apply yN | apply yO); (· exact hgA); (· exact hsA)) | (apply yNP; (· exact hgA); (· exact hsA)) | ((first | apply zA | apply zC | apply zE | apply zG); (· omega)) | ((first | apply zB | apply zD | apply zF | apply zH); (· omega)) | ((first | apply zI | apply zK); (· with_reducible assumption)) | ((first | apply zJ | apply zL); (· with_reducible assumption)) | fail)
        conv => whnf
        exact h _ leA
      · have hE : newE e seed C = 7 := by unfold newE; rw [if_neg (fun hh => hS hh.2.2)]
        rw [hE] at h
        refine callS_walk tt_ok Try.func21 rfl (by kernel_rfl) ?_
        conv => whnf
        repeat' ((conv => whnf); first | refine known_t he ?_ | refine within_t hC ?_ | refine within_f hS ?_ | ((first | (apply vB; (case h => with_reducible assumption)) | (apply vA; (case h => with_reducible assumption)) | (apply vC; (case h => with_reducible assumption))); (case hk => exact kpA); (case he => omega)) | ((first | (apply vI; (case h => with_reducible assumption)) | (apply vG; (case h => with_reducible assumption)) | (apply vK; (case h => with_reducible assumption))); (case hk => exact kpA); (case he => omega); (case hp => omega); (case' g => intro hr_ hc_)) | ((first | (apply vJ; (case h => with_reducible assumption)) | (apply vH; (case h => with_reducible assumption)) | (apply vL; (case h => with_reducible assumption))); (case hk => exact kpA); (case he => omega); (case' g => intro hr_ hc_)) | (apply drawS_auto mixed tt_ok; (· kernel_rfl)) | apply zZ | apply yA | apply yB | ((first | apply zA | apply zC | apply zE | apply zG); (· with_reducible assumption)) | ((first | apply zB | apply zD | apply zF | apply zH); (· with_reducible assumption)) | apply zM | apply zN | apply zO | apply zP | apply zQ | apply zR | apply zS | apply zT | apply zU | (apply zV; (· omega)) | (apply zW; (· omega)) | (apply zX; (· (first | omega | (dsimp only; omega)))) | (apply zY; (try (apply zY; apply zX; (· omega))); apply zX; (· omega); apply zX; (· (first | omega | (dsimp only; omega)))) | ((first | apply yJ | apply yK | apply yL | apply yM | apply yN | apply yO); (· exact hgA); (· exact hsA)) | (apply yNP; (· exact hgA); (· exact hsA)) | ((first | apply zA | apply zC | apply zE | apply zG); (· omega)) | ((first | apply zB | apply zD | apply zF | apply zH); (· omega)) | ((first | apply zI | apply zK); (· with_reducible assumption)) | ((first | apply zJ | apply zL); (· with_reducible assumption)) | fail)
        conv => whnf
        exact h _ (AHeap.le.refl _)
    · have hE : newE e seed C = 7 := by unfold newE; rw [if_neg (fun hh => hC hh.2.1)]
      rw [hE] at h
      refine callS_walk tt_ok Try.func21 rfl (by kernel_rfl) ?_
      conv => whnf
      repeat' ((conv => whnf); first | refine known_t he ?_ | refine within_f hC ?_ | ((first | (apply vB; (case h => with_reducible assumption)) | (apply vA; (case h => with_reducible assumption)) | (apply vC; (case h => with_reducible assumption))); (case hk => exact kpA); (case he => omega)) | ((first | (apply vI; (case h => with_reducible assumption)) | (apply vG; (case h => with_reducible assumption)) | (apply vK; (case h => with_reducible assumption))); (case hk => exact kpA); (case he => omega); (case hp => omega); (case' g => intro hr_ hc_)) | ((first | (apply vJ; (case h => with_reducible assumption)) | (apply vH; (case h => with_reducible assumption)) | (apply vL; (case h => with_reducible assumption))); (case hk => exact kpA); (case he => omega); (case' g => intro hr_ hc_)) | (apply drawS_auto mixed tt_ok; (· kernel_rfl)) | apply zZ | apply yA | apply yB | ((first | apply zA | apply zC | apply zE | apply zG); (· with_reducible assumption)) | ((first | apply zB | apply zD | apply zF | apply zH); (· with_reducible assumption)) | apply zM | apply zN | apply zO | apply zP | apply zQ | apply zR | apply zS | apply zT | apply zU | (apply zV; (· omega)) | (apply zW; (· omega)) | (apply zX; (· (first | omega | (dsimp only; omega)))) | (apply zY; (try (apply zY; apply zX; (· omega))); apply zX; (· omega); apply zX; (· (first | omega | (dsimp only; omega)))) | ((first | apply yJ | apply yK | apply yL | apply yM | apply yN | apply yO); (· exact hgA); (· exact hsA)) | (apply yNP; (· exact hgA); (· exact hsA)) | ((first | apply zA | apply zC | apply zE | apply zG); (· omega)) | ((first | apply zB | apply zD | apply zF | apply zH); (· omega)) | ((first | apply zI | apply zK); (· with_reducible assumption)) | ((first | apply zJ | apply zL); (· with_reducible assumption)) | fail)
      conv => whnf
      exact h _ (AHeap.le.refl _)
  · have hE : newE e seed C = 7 := by unfold newE; rw [if_neg (fun hh => he hh.1)]
    rw [hE] at h
    refine callS_walk tt_ok Try.func21 rfl (by kernel_rfl) ?_
    conv => whnf
    repeat' ((conv => whnf); first | refine known_f he ?_ | ((first | (apply vB; (case h => with_reducible assumption)) | (apply vA; (case h => with_reducible assumption)) | (apply vC; (case h => with_reducible assumption))); (case hk => exact kpA); (case he => omega)) | ((first | (apply vI; (case h => with_reducible assumption)) | (apply vG; (case h => with_reducible assumption)) | (apply vK; (case h => with_reducible assumption))); (case hk => exact kpA); (case he => omega); (case hp => omega); (case' g => intro hr_ hc_)) | ((first | (apply vJ; (case h => with_reducible assumption)) | (apply vH; (case h => with_reducible assumption)) | (apply vL; (case h => with_reducible assumption))); (case hk => exact kpA); (case he => omega); (case' g => intro hr_ hc_)) | (apply drawS_auto mixed tt_ok; (· kernel_rfl)) | apply zZ | apply yA | apply yB | ((first | apply zA | apply zC | apply zE | apply zG); (· with_reducible assumption)) | ((first | apply zB | apply zD | apply zF | apply zH); (· with_reducible assumption)) | apply zM | apply zN | apply zO | apply zP | apply zQ | apply zR | apply zS | apply zT | apply zU | (apply zV; (· omega)) | (apply zW; (· omega)) | (apply zX; (· (first | omega | (dsimp only; omega)))) | (apply zY; (try (apply zY; apply zX; (· omega))); apply zX; (· omega); apply zX; (· (first | omega | (dsimp only; omega)))) | ((first | apply yJ | apply yK | apply yL | apply yM | apply yN | apply yO); (· exact hgA); (· exact hsA)) | (apply yNP; (· exact hgA); (· exact hsA)) | ((first | apply zA | apply zC | apply zE | apply zG); (· omega)) | ((first | apply zB | apply zD | apply zF | apply zH); (· omega)) | ((first | apply zI | apply zK); (· with_reducible assumption)) | ((first | apply zJ | apply zL); (· with_reducible assumption)) | fail)
    conv => whnf
    exact h _ (AHeap.le.refl _)
theorem errors_c {d o : Nat} {e : Int} {sh : Bool} {R : Int} {E : List Int} {H : AHeap} {K : CK} (hn : E.length ≤ 1000000) (hE : ∀ x ∈ E, inR x) (hD : DitN H d o e sh R E)
    (h : ∀ H' p c, H.le H' → Row H' p E → K (.returned (.slice p E.length c)) H') : callS P (fnV 26) [.pointer (some ⟨d, 0, none⟩)] H K := by
  obtain ⟨hne, hd, ho, gd, go⟩ := hD
  refine callS_post ?_
  refine callS_walk tt_ok Try.func26 rfl (by kernel_rfl) ?_
  conv => whnf
  repeat' ((conv => whnf); first | (refine cloneO_c hn ?_ go (fun H2 hle2 hz2 hg2 => ?_); (· omega)) | ((first | (apply vB; (case h => with_reducible assumption)) | (apply vA; (case h => with_reducible assumption)) | (apply vC; (case h => with_reducible assumption))); (case hk => exact kpA); (case he => omega)) | ((first | (apply vI; (case h => with_reducible assumption)) | (apply vG; (case h => with_reducible assumption)) | (apply vK; (case h => with_reducible assumption))); (case hk => exact kpA); (case he => omega); (case hp => omega); (case' g => intro hr_ hc_)) | ((first | (apply vJ; (case h => with_reducible assumption)) | (apply vH; (case h => with_reducible assumption)) | (apply vL; (case h => with_reducible assumption))); (case hk => exact kpA); (case he => omega); (case' g => intro hr_ hc_)) | apply yA | apply yB | ((first | apply zA | apply zC | apply zE | apply zG); (· with_reducible assumption)) | ((first | apply zB | apply zD | apply zF | apply zH); (· with_reducible assumption)) | apply zM | apply zN | apply zO | apply zP | apply zQ | apply zR | apply zS | apply zT | apply zU | (apply zV; (· omega)) | (apply zW; (· omega)) | (apply zX; (· (first | omega | (dsimp only; omega)))) | (apply zY; (try (apply zY; apply zX; (· omega))); apply zX; (· omega); apply zX; (· (first | omega | (dsimp only; omega)))) | ((first | apply yJ | apply yK | apply yL | apply yM | apply yN | apply yO); (· exact hgA); (· exact hsA)) | (apply yNP; (· exact hgA); (· exact hsA)) | ((first | apply zA | apply zC | apply zE | apply zG); (· omega)) | ((first | apply zB | apply zD | apply zF | apply zH); (· omega)) | ((first | apply zI | apply zK); (· with_reducible assumption)) | ((first | apply zJ | apply zL); (· with_reducible assumption)) | fail)
  conv => whnf
  refine ⟨_, HW.fz _ H.size, h _ _ _ (AHeap.le.fz hle2 (Nat.le_refl _)) ?_⟩
  obtain ⟨a, ha, hr⟩ := ORowV.fz (H := H2) (base := H.size) (b := H.size) (xs := E) (.inr ⟨_, rfl, hg2, by omega, by omega⟩) (Nat.le_refl _) (by unfold maxN; omega) hE
  cases ha
  exact hr
end Go.Abs
