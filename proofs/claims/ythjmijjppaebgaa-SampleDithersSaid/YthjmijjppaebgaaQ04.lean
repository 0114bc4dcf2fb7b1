/- The dither's contracts, joined. -/
import Derived.Test.YthjmijjppaebgaaI04
import Derived.Test.YthjmijjppaebgaaN04
set_option linter.all false
set_option maxHeartbeats 1000000
set_option maxRecDepth 20000
namespace Go.Abs
open Go Go.Proofs

theorem dEncAll_c {d o : Nat} {e : Int} {sh pl : Bool} {R : Int} {E : List Int} {p : Option Addr} {c : Nat} {b : List (List Int)} {H : AHeap} {K : CK} (he : enc e) (h4 : e ≤ 4) (hR : inD R) (hE : okE E) (hb : Mat H p b) (hD : DitN H d o e sh R E)
    (h : ∀ H', H.size ≤ H'.size → (∀ j, j < H.size → j ≠ d → j ≠ o → H'.get j = H.get j) → DitN H' d o e sh (dithR b R E) (dithE e sh b R E) → K (.returned (.tuple #[.string (dithS e sh pl b R E), iv (dithC b E)])) H') :
    callS P (fnV 22) [.pointer (some ⟨d, 0, none⟩), .bool pl, .slice p b.length c] H K := by
  by_cases h0 : dithC b E = 0
  · rw [h0] at h
    exact dEnc_c he h4 hR hE hb hD h0 h
  · have hS : dithS e sh pl b R E = .empty := by unfold dithS; rw [if_neg h0]
    have hRR : dithR b R E = R := by unfold dithR; rw [if_neg h0]
    have hEE : dithE e sh b R E = E := by unfold dithE; rw [if_neg h0]
    rw [hS, hRR, hEE] at h
    exact dEnc_bad hb hD h0 (fun H' hle => h H' hle.size (fun j hj _ _ => hle.get j hj) (hD.le hle))
theorem nilEnc_c {pl : Bool} {H : AHeap} {K : CK} (h : ∀ H', H.le H' → K (.returned (.tuple #[.string .empty, iv 1])) H') : callS P (fnV 22) [.pointer none, .bool pl, .slice none 0 0] H K := by
  refine callS_walk tt_ok Try.func22 rfl (by kernel_rfl) ?_
  conv => whnf
  repeat' ((conv => whnf); first | ((first | (apply vB; (case h => with_reducible assumption)) | (apply vA; (case h => with_reducible assumption)) | (apply vC; (case h => with_reducible assumption)) | (apply vD; (case h => with_reducible assumption))); (case hk => exact kpA); (case he => omega)) | ((first | (apply vI; (case h => with_reducible assumption)) | (apply vG; (case h => with_reducible assumption)) | (apply vK; (case h => with_reducible assumption))); (case hk => exact kpA); (case he => omega); (case hp => omega); (case' g => intro hr_ hc_)) | ((first | (apply vJ; (case h => with_reducible assumption)) | (apply vH; (case h => with_reducible assumption)) | (apply vL; (case h => with_reducible assumption))); (case hk => exact kpA); (case he => omega); (case' g => intro hr_ hc_)) | (apply drawS_auto mixed tt_ok; (· kernel_rfl)) | apply zZ | apply yA | apply yB | ((first | apply zA | apply zC | apply zE | apply zG); (· with_reducible assumption)) | ((first | apply zB | apply zD | apply zF | apply zH); (· with_reducible assumption)) | apply zM | apply zN | apply zO | apply zP | apply zQ | apply zR | apply zS | apply zT | apply zU | (apply zV; (· omega)) | (apply zW; (· omega)) | (apply zX; (· (first | omega | (dsimp only; omega)))) | (apply zY; (try (apply zY; apply zX; (· omega))); apply zX; (· omega); apply zX; (· (first | omega | (dsimp only; omega)))) | ((first | apply yJ | apply yK | apply yL | apply yM | apply yN | apply yO); (· exact hgA); (· exact hsA)) | (apply yNP; (· exact hgA); (· exact hsA)) | ((first | apply zA | apply zC | apply zE | apply zG); (· omega)) | ((first | apply zB | apply zD | apply zF | apply zH); (· omega)) | ((first | apply zI | apply zK); (· with_reducible assumption)) | ((first | apply zJ | apply zL); (· with_reducible assumption)) | ((first | apply xA | apply xC | apply xE | apply xG); (· first | assumption | rfl)) | ((first | apply xB | apply xD | apply xF | apply xH); (· first | assumption | kernel_rfl)) | fail)
  conv => whnf
  exact h _ leA
theorem nilCopy_c {H : AHeap} {K : CK} (h : K (.returned (.pointer none)) H) : callS P (fnV 31) [.pointer none] H K := by
  refine callS_walk tt_ok Try.func31 rfl (by kernel_rfl) ?_
  conv => whnf
  repeat' ((conv => whnf); first | ((first | (apply vB; (case h => with_reducible assumption)) | (apply vA; (case h => with_reducible assumption)) | (apply vC; (case h => with_reducible assumption))); (case hk => exact kpA); (case he => omega)) | ((first | (apply vI; (case h => with_reducible assumption)) | (apply vG; (case h => with_reducible assumption)) | (apply vK; (case h => with_reducible assumption))); (case hk => exact kpA); (case he => omega); (case hp => omega); (case' g => intro hr_ hc_)) | ((first | (apply vJ; (case h => with_reducible assumption)) | (apply vH; (case h => with_reducible assumption)) | (apply vL; (case h => with_reducible assumption))); (case hk => exact kpA); (case he => omega); (case' g => intro hr_ hc_)) | apply yA | apply yB | ((first | apply zA | apply zC | apply zE | apply zG); (· with_reducible assumption)) | ((first | apply zB | apply zD | apply zF | apply zH); (· with_reducible assumption)) | apply zM | apply zN | apply zO | apply zP | apply zQ | apply zR | apply zS | apply zT | apply zU | (apply zV; (· omega)) | (apply zW; (· omega)) | (apply zX; (· (first | omega | (dsimp only; omega)))) | (apply zY; (try (apply zY; apply zX; (· omega))); apply zX; (· omega); apply zX; (· (first | omega | (dsimp only; omega)))) | ((first | apply yJ | apply yK | apply yL | apply yM | apply yN | apply yO); (· exact hgA); (· exact hsA)) | (apply yNP; (· exact hgA); (· exact hsA)) | ((first | apply zA | apply zC | apply zE | apply zG); (· omega)) | ((first | apply zB | apply zD | apply zF | apply zH); (· omega)) | ((first | apply zI | apply zK); (· with_reducible assumption)) | ((first | apply zJ | apply zL); (· with_reducible assumption)) | fail)
  conv => whnf
  exact h
theorem nilErrors_c {H : AHeap} {K : CK} (h : K (.returned (.slice none 0 0)) H) : callS P (fnV 26) [.pointer none] H K := by
  refine callS_walk tt_ok Try.func26 rfl (by kernel_rfl) ?_
  conv => whnf
  repeat' ((conv => whnf); first | ((first | (apply vB; (case h => with_reducible assumption)) | (apply vA; (case h => with_reducible assumption)) | (apply vC; (case h => with_reducible assumption))); (case hk => exact kpA); (case he => omega)) | ((first | (apply vI; (case h => with_reducible assumption)) | (apply vG; (case h => with_reducible assumption)) | (apply vK; (case h => with_reducible assumption))); (case hk => exact kpA); (case he => omega); (case hp => omega); (case' g => intro hr_ hc_)) | ((first | (apply vJ; (case h => with_reducible assumption)) | (apply vH; (case h => with_reducible assumption)) | (apply vL; (case h => with_reducible assumption))); (case hk => exact kpA); (case he => omega); (case' g => intro hr_ hc_)) | apply yA | apply yB | ((first | apply zA | apply zC | apply zE | apply zG); (· with_reducible assumption)) | ((first | apply zB | apply zD | apply zF | apply zH); (· with_reducible assumption)) | apply zM | apply zN | apply zO | apply zP | apply zQ | apply zR | apply zS | apply zT | apply zU | (apply zV; (· omega)) | (apply zW; (· omega)) | (apply zX; (· (first | omega | (dsimp only; omega)))) | (apply zY; (try (apply zY; apply zX; (· omega))); apply zX; (· omega); apply zX; (· (first | omega | (dsimp only; omega)))) | ((first | apply yJ | apply yK | apply yL | apply yM | apply yN | apply yO); (· exact hgA); (· exact hsA)) | (apply yNP; (· exact hgA); (· exact hsA)) | ((first | apply zA | apply zC | apply zE | apply zG); (· omega)) | ((first | apply zB | apply zD | apply zF | apply zH); (· omega)) | ((first | apply zI | apply zK); (· with_reducible assumption)) | ((first | apply zJ | apply zL); (· with_reducible assumption)) | fail)
  conv => whnf
  exact h
theorem DitN.own {H : AHeap} {d o : Nat} {e : Int} {sh : Bool} {R : Int} {E : List Int} (h : DitN H d o e sh R E) : ∀ j c sz, H.get j = some (.cells c false sz) → j ≠ d ∧ j ≠ o := fun j c sz hg =>
  ⟨fun hj => by rw [hj, h.gd] at hg; simp at hg, fun hj => by rw [hj, h.go] at hg; simp at hg⟩
theorem DitN.keep {H H' : AHeap} {d o : Nat} {e : Int} {sh : Bool} {R : Int} {E : List Int} (h : DitN H d o e sh R E) (hs : H.size ≤ H'.size) (hsame : ∀ j, j < H.size → j ≠ d → j ≠ o → H'.get j = H.get j) : Kp H H' :=
  ⟨hs, fun j c sz hj hg => (hsame j hj (h.own j c sz hg).1 (h.own j c sz hg).2).trans hg⟩
theorem DitN.other {H H' : AHeap} {d o d2 o2 : Nat} {e2 : Int} {sh2 : Bool} {R2 : Int} {E2 : List Int} (h2 : DitN H d2 o2 e2 sh2 R2 E2) (hs : H.size ≤ H'.size) (hsame : ∀ j, j < H.size → j ≠ d → j ≠ o → H'.get j = H.get j)
    (n1 : d2 ≠ d) (n2 : d2 ≠ o) (n3 : o2 ≠ d) (n4 : o2 ≠ o) : DitN H' d2 o2 e2 sh2 R2 E2 :=
  ⟨h2.ne, Nat.lt_of_lt_of_le h2.ld hs, Nat.lt_of_lt_of_le h2.lo hs, (hsame _ h2.ld n1 n2).trans h2.gd, (hsame _ h2.lo n3 n4).trans h2.go⟩
theorem okE_zero (n : Nat) : okE (List.replicate n 0) := fun x hx => by rw [List.eq_of_mem_replicate hx]; omega
theorem plainE_zero (sh : Bool) (n : Nat) : plainE sh (List.replicate n 0) := fun _ x hx => List.eq_of_mem_replicate hx
theorem okE_inR {E : List Int} (h : okE E) : ∀ x ∈ E, inR x := fun x hx => by have := h x hx; unfold inR; omega
end Go.Abs
