/- Contracts of the reference's Levels and Decode. -/
import Derived.Test.YthjmijjppaebgaaK04
set_option linter.all false
set_option maxHeartbeats 2000000
set_option maxRecDepth 20000
namespace Go.Abs
open Go Go.Proofs

theorem chan_t {c : Int} (hc : 1 ≤ c ∧ c ≤ 8) {H : AHeap} {K : CK} (h : K (.returned (.bool true)) H) : callS P (fnV 57) [iv c] H K := by
  refine callS_walk tt_ok Try.func57 rfl (by kernel_rfl) ?_
  conv => whnf
  repeat' ((conv => whnf); first | (apply drawS_auto mixed tt_ok; (· kernel_rfl)) | apply zZ | apply yA | apply yB | ((first | apply zA | apply zC | apply zE | apply zG); (· with_reducible assumption)) | ((first | apply zB | apply zD | apply zF | apply zH); (· with_reducible assumption)) | apply zM | apply zN | apply zO | apply zP | apply zQ | apply zR | apply zS | apply zT | apply zU | (apply zV; (· omega)) | (apply zW; (· omega)) | (apply zX; (· (first | omega | (dsimp only; omega)))) | (apply zY; (try (apply zY; apply zX; (· omega))); apply zX; (· omega); apply zX; (· (first | omega | (dsimp only; omega)))) | ((first | apply zA | apply zC | apply zE | apply zG); (· omega)) | ((first | apply zB | apply zD | apply zF | apply zH); (· omega)) | ((first | apply zI | apply zK); (· with_reducible assumption)) | ((first | apply zJ | apply zL); (· with_reducible assumption)) | fail)
  conv => whnf
  rw [decide_eq_true hc.2]
  exact h
theorem chan_f {c : Int} (hc : ¬(1 ≤ c ∧ c ≤ 8)) {H : AHeap} {K : CK} (h : K (.returned (.bool false)) H) : callS P (fnV 57) [iv c] H K := by
  refine callS_walk tt_ok Try.func57 rfl (by kernel_rfl) ?_
  conv => whnf
  by_cases h1 : 1 ≤ c
  · have h2 : decide (c ≤ 8) = false := decide_eq_false (fun h => hc ⟨h1, h⟩)
    repeat' ((conv => whnf); first | (apply drawS_auto mixed tt_ok; (· kernel_rfl)) | apply zZ | apply yA | apply yB | ((first | apply zA | apply zC | apply zE | apply zG); (· with_reducible assumption)) | ((first | apply zB | apply zD | apply zF | apply zH); (· with_reducible assumption)) | apply zM | apply zN | apply zO | apply zP | apply zQ | apply zR | apply zS | apply zT | apply zU | (apply zV; (· omega)) | (apply zW; (· omega)) | (apply zX; (· (first | omega | (dsimp only; omega)))) | (apply zY; (try (apply zY; apply zX; (· omega))); apply zX; (· omega); apply zX; (· (first | omega | (dsimp only; omega)))) | ((first | apply zA | apply zC | apply zE | apply zG); (· omega)) | ((first | apply zB | apply zD | apply zF | apply zH); (· omega)) | ((first | apply zI | apply zK); (· with_reducible assumption)) | ((first | apply zJ | apply zL); (· with_reducible assumption)) | fail)
    conv => whnf
    rw [h2]
    exact h
  · skip
    repeat' ((conv => whnf); first | (apply drawS_auto mixed tt_ok; (· kernel_rfl)) | apply zZ | apply yA | apply yB | ((first | apply zA | apply zC | apply zE | apply zG); (· with_reducible assumption)) | ((first | apply zB | apply zD | apply zF | apply zH); (· with_reducible assumption)) | apply zM | apply zN | apply zO | apply zP | apply zQ | apply zR | apply zS | apply zT | apply zU | (apply zV; (· omega)) | (apply zW; (· omega)) | (apply zX; (· (first | omega | (dsimp only; omega)))) | (apply zY; (try (apply zY; apply zX; (· omega))); apply zX; (· omega); apply zX; (· (first | omega | (dsimp only; omega)))) | ((first | apply zA | apply zC | apply zE | apply zG); (· omega)) | ((first | apply zB | apply zD | apply zF | apply zH); (· omega)) | ((first | apply zI | apply zK); (· with_reducible assumption)) | ((first | apply zJ | apply zL); (· with_reducible assumption)) | fail)
    conv => whnf
    exact h
theorem levD_sub {e : Int} {s : ByteArray} {a : Nat} (h : a + nB e ≤ s.size) (he : enc e) : levD e (s.extract a (a + nB e)) 0 = levD e s a := by
  obtain ⟨_, hn⟩ := nB_bits he
  unfold levD rawD
  have hb : bytesAt (s.extract a (a + nB e)) 0 (nB e) (bigE e) = bytesAt s a (nB e) (bigE e) := bytesAt_congr fun k hk => by
    rw [Nat.zero_add, sAt_extract (by omega) h]
  have h0 : sAt (s.extract a (a + nB e)) 0 = sAt s a := by
    rw [sAt_extract (by omega) h, Nat.add_zero]
  rw [hb, h0]
theorem intK_mulN {a b : Nat} {K : Int → Prop} (h : a * b ≤ 1000000) (hk : K ((a * b : Nat) : Int)) : intK .i64 ((a : Int) * (b : Int)) K :=
  intK_eq (by push_cast; rfl) (rngN (Nat.le_refl _) h) hk
theorem intK_addN {a b : Nat} {K : Int → Prop} (h : a + b ≤ 1000000) (hk : K ((a + b : Nat) : Int)) : intK .i64 ((a : Int) + (b : Int)) K :=
  intK_eq (by push_cast; rfl) (rngN (Nat.le_refl _) h) hk
theorem intK_divN {a b : Nat} {K : Int → Prop} (h : a ≤ 1000000) (hk : K ((a / b : Nat) : Int)) : intK .i64 ((a : Int).tdiv (b : Int)) K :=
  intK_eq (by rw [Int.tdiv_eq_ediv_of_nonneg (by omega), Int.natCast_ediv]) (rngN (Nat.div_le_self _ _) h) hk
theorem intK_bits {n : Nat} {K : Int → Prop} (h : n ≤ 1000000) (hk : K ((n : Nat) : Int)) : intK .i64 ((8 * (n : Int)).tdiv 8) K :=
  intK_eq (by rw [Int.tdiv_eq_ediv_of_nonneg (by omega)]; omega) (rngN (Nat.le_refl _) h) hk
theorem tmodN (a b : Nat) : (a : Int).tmod (b : Int) = ((a % b : Nat) : Int) := by rw [Int.tmod_eq_emod_of_nonneg (by omega), Int.natCast_emod]
theorem OMat.rowE {H : AHeap} {base o : Nat} {rs : List Nat} {f : Nat → Nat → Int} {n L : Nat} {rest : List Value} (h : OMat H base o rs (matF f n L) rest) {e : Int} {k : Nat} (he : e = (k : Int)) (hk : k < n) {K : Value → Prop} (hK : K (.slice (some ⟨rs.getD k 0, 0, none⟩) L L)) : loadK H o (0 + e.toNat * 1) K := by
  subst he; exact h.row hk hK
theorem OMat.put2E {H : AHeap} {base o : Nat} {rs : List Nat} {f : Nat → Nat → Int} {n L : Nat} {rest : List Value} (h : OMat H base o rs (matF f n L) rest) {e : Int} {k j : Nat} (he : e = (j : Int)) (hk : k < n) (hj : j < L) {v : Int} (f' : Nat → Nat → Int) (hf : ∀ i, i < n → ∀ c, c < L → (if i = k ∧ c = j then v else f i c) = f' i c) {K : AHeap → Prop}
    (hK : ∀ H', OMat H' base o rs (matF f' n L) rest → OKeep H H' base rs → K H') : storeK H (rs.getD k 0) (0 + e.toNat * 1) (.int .i64 v) K := by
  subst he; exact h.put2 hk hj f' hf hK
attribute [local irreducible] sampF rawD levD levAt nB decN idx pc pf maxF decE leV bytesAt
theorem refLevels_c {e C : Int} {pl : Bool} {s : ByteArray} (hs : s.size ≤ 1000000) {H : AHeap} {K : CK}
    (h : ∀ H' p' c', H.le H' → Mat H' p' (levM e pl C s) → K (.returned (.tuple #[.slice p' (levM e pl C s).length c', iv (decE e C s)])) H') : callS P (fnV 24) [iv e, .bool pl, iv C, .string s] H K := by
  have bad_ : ∀ ec, decE e C s = ec → ec ≠ 0 → K (.returned (.tuple #[.slice none 0 0, iv ec])) H := fun ec he hne => by
    have hM : levM e pl C s = [] := by unfold levM; rw [he, if_neg hne]
    have := h H none 0 (AHeap.le.refl _) (by rw [hM]; exact .nil)
    rw [hM, he] at this; exact this
  by_cases he : enc e
  · by_cases hC : 1 ≤ C ∧ C ≤ 8
    · obtain ⟨n, rfl⟩ := Int.eq_ofNat_of_zero_le (by omega : 0 ≤ C)
      obtain ⟨hb8, hn1, hn4⟩ := nB_bits he
      have hE1 : decE e n s = if s.size % (nB e * n) = 0 ∧ s.size / (nB e * n) ≤ 4096 then 0 else 11 := by unfold decE; rw [if_pos ⟨he, hC⟩, Int.toNat_natCast]; unfold decN; rfl
      have hm : nB e * n ≤ 4 * 8 := Nat.mul_le_mul hn4 (by omega)
      have hm32 : nB e * n ≤ 1000000 := by omega
      have e2 := tmodN s.size (nB e * n)
      have hm0 : 0 < nB e * n := Nat.mul_pos hn1 (by omega)
      by_cases hz : s.size % (nB e * n) = 0
      · by_cases hN : s.size / (nB e * n) ≤ 4096
        · have hsN : nB e * n * (s.size / (nB e * n)) = s.size := by have := Nat.div_add_mod s.size (nB e * n); omega
          have hNd : decN e n s = s.size / (nB e * n) := by unfold decN; rfl
          generalize hNg : s.size / (nB e * n) = N at *
          have hE : decE e n s = 0 := by rw [hE1, if_pos ⟨hz, hN⟩]
          have hM : levM e pl n s = matF (levAt e pl n s) n N := by rw [levM, if_pos hE, Int.toNat_natCast, hNd]
          have hNn : N * n ≤ 4096 * 8 := Nat.mul_le_mul hN (by omega)
          have hNn2 : N * n ≤ 1000000 := by omega
          have hcom : N * n = n * N := Nat.mul_comm _ _
          rw [hE, hM, matF_len] at h
          refine callS_post ?_
          refine callS_walk tt_ok Try.func24 rfl (by kernel_rfl) ?_
          conv => whnf
          repeat' ((conv => whnf); first | refine refBits_v he hb8 ?_ | refine chan_t hC ?_ | (refine intK_bits ?_ ?_; (· omega)) | refine intK_mulN hm32 ?_ | refine intK_divN hs ?_ | rw [hNg] | (refine nothingF_c (n := n) (m := N) ?_ (fun H1 o rs hle hom => ?_); (· omega)) | ((first | (apply vB; (case h => with_reducible assumption)) | (apply vA; (case h => with_reducible assumption)) | (apply vC; (case h => with_reducible assumption))); (case hk => exact kpA); (case he => omega)) | ((first | (apply vI; (case h => with_reducible assumption)) | (apply vG; (case h => with_reducible assumption)) | (apply vK; (case h => with_reducible assumption))); (case hk => exact kpA); (case he => omega); (case hp => omega); (case' g => intro hr_ hc_)) | ((first | (apply vJ; (case h => with_reducible assumption)) | (apply vH; (case h => with_reducible assumption)) | (apply vL; (case h => with_reducible assumption))); (case hk => exact kpA); (case he => omega); (case' g => intro hr_ hc_)) | (apply drawS_auto mixed tt_ok; (· kernel_rfl)) | apply zZ | apply yA | apply yB | ((first | apply zA | apply zC | apply zE | apply zG); (· with_reducible assumption)) | ((first | apply zB | apply zD | apply zF | apply zH); (· with_reducible assumption)) | apply zM | apply zN | apply zO | apply zP | apply zQ | apply zR | apply zS | apply zT | apply zU | (apply zV; (· omega)) | (apply zW; (· omega)) | (apply zX; (· (first | omega | (dsimp only; omega)))) | (apply zY; (try (apply zY; apply zX; (· omega))); apply zX; (· omega); apply zX; (· (first | omega | (dsimp only; omega)))) | ((first | apply yJ | apply yK | apply yL | apply yM | apply yN | apply yO); (· exact hgA); (· exact hsA)) | (apply yNP; (· exact hgA); (· exact hsA)) | ((first | apply zA | apply zC | apply zE | apply zG); (· omega)) | ((first | apply zB | apply zD | apply zF | apply zH); (· omega)) | ((first | apply zI | apply zK); (· with_reducible assumption)) | ((first | apply zJ | apply zL); (· with_reducible assumption)) | fail)
          conv => whnf
          refine loopS_mask tt_ok (fun (i : Nat × AHeap) => [.p (iv e), .p (.bool pl), .p (iv n), .p (.string s), .w, .w, .w, .w, .w, .w, .w, .w, .p (iv (nB e : Nat)), .p (iv N), .p (.slice (some ⟨o, 0, none⟩) n n), .p (iv i.1), .w, .w, .w, .w, .w, .w, .w, .w, .w, .w, .w, .w, .w, .w, .w, .w, .w, .w, .w, .w, .w, .w, .w, .w, .w, .w, .w, .w, .w, .w, .w, .w, .w, .w, .w, .w, .w, .w, .w, .w, .w, .w, .w, .w, .w, .w, .w, .w, .w, .w, .w, .w, .w, .w, .w, .w, .w, .w, .w, .w, .w, .w, .w, .w, .w, .w, .w, .w, .w, .w, .w, .w, .w, .w, .w]) (fun (i : Nat × AHeap) => i.2) (fun (i : Nat × AHeap) => i.1 ≤ N * n ∧ H.le i.2 ∧ OMat i.2 H.size o rs (matF (fun c f => if idx pl n N c f < i.1 then levAt e pl n s c f else 0) n N) []) (fun (i : Nat × AHeap) => N * n - i.1) (⟨0, H1⟩) (⟨by omega, hle, hom.cast _ (fun i hi c hc => by simp)⟩) ?_ (fun i hi => ?_)
          · conv => whnf
            refine weakH_of (HW.refl _) ?_
            repeat' (first | exact WT.nil | refine WT.same ?_ | refine WT.drop ?_ | refine WT.int (by omega) ?_ | refine WT.eq (by assumption) ?_ | refine WT.bl (by first | assumption | (symm; assumption)) ?_ | refine WT.vv (by assumption) ?_)
          obtain ⟨i, HH⟩ := i
          obtain ⟨hi, hle1, homi⟩ := hi
          dsimp only at hi hle1 homi ⊢
          have hs1 := hle1.size
          by_cases hlt : i < N * n
          · have hlt2 : i < n * N := hcom ▸ hlt
            have hpc := pc_lt (pl := pl) (by omega : 0 < n) hlt2
            have hpf := pf_lt (C := n) (pl := pl) hlt2
            have hN0 : 0 < N := by
              rcases Nat.eq_zero_or_pos N with h0 | h1
              · rw [h0] at hlt; omega
              · exact h1
            have hia : i * nB e + nB e ≤ s.size := by
              have h1 : (i + 1) * nB e ≤ n * N * nB e := Nat.mul_le_mul_right _ hlt2
              have h2 : n * N * nB e = s.size := by rw [← hsN, Nat.mul_comm, Nat.mul_assoc]
              rw [Nat.add_mul, Nat.one_mul] at h1
              omega
            have hts : (s.extract (i * nB e) (i * nB e + nB e)).size = nB e := by rw [ByteArray.size_extract, Nat.min_eq_left hia]; omega
            have hv : levD e (s.extract (i * nB e) (i * nB e + nB e)) 0 = levAt e pl n s (pc n N pl i) (pf n N pl i) := by
              rw [levD_sub hia he]
              unfold levAt
              rw [hNd, idx_place, Nat.mul_comm]
            have hi1 : i * nB e ≤ 1000000 := by omega
            have hi2 : i * nB e + nB e ≤ 1000000 := by omega
            have t1 := tmodN i n
            have t2 := tmodN i N
            have fl := fun (c f : Nat) (hc : c < n) (hf : f < N) => fill_idx (g := fun c f => levAt e pl n s c f) hv hlt2 c f hc hf
            cases pl with
            | true =>
              simp only [pc, pf, if_true] at hpc hpf hv fl
              repeat' ((conv => whnf); first | refine intK_mulN hNn2 ?_ | (refine intK_divN ?_ ?_; (· omega)) | refine homi.row hpc ?_ | refine intK_mulN hi1 ?_ | refine intK_addN hi2 ?_ | refine read_c he hts ?_ | refine homi.put2E (tmodN i N) hpc hpf (fun c f => if idx true n N c f < i + 1 then levAt e true n s c f else 0) (fun c hc f hf => fl c f hc hf) (fun H2 hom2 hkp2 => ?_); (have hz2 := hkp2.size) | ((first | (apply vB; (case h => with_reducible assumption)) | (apply vA; (case h => with_reducible assumption)) | (apply vC; (case h => with_reducible assumption))); (case hk => exact kpA); (case he => omega)) | ((first | (apply vI; (case h => with_reducible assumption)) | (apply vG; (case h => with_reducible assumption)) | (apply vK; (case h => with_reducible assumption))); (case hk => exact kpA); (case he => omega); (case hp => omega); (case' g => intro hr_ hc_)) | ((first | (apply vJ; (case h => with_reducible assumption)) | (apply vH; (case h => with_reducible assumption)) | (apply vL; (case h => with_reducible assumption))); (case hk => exact kpA); (case he => omega); (case' g => intro hr_ hc_)) | (apply drawS_auto mixed tt_ok; (· kernel_rfl)) | apply zZ | apply yA | apply yB | ((first | apply zA | apply zC | apply zE | apply zG); (· with_reducible assumption)) | ((first | apply zB | apply zD | apply zF | apply zH); (· with_reducible assumption)) | apply zM | apply zN | apply zO | apply zP | apply zQ | apply zR | apply zS | apply zT | apply zU | (apply zV; (· omega)) | (apply zW; (· omega)) | (apply zX; (· (first | omega | (dsimp only; omega)))) | (apply zY; (try (apply zY; apply zX; (· omega))); apply zX; (· omega); apply zX; (· (first | omega | (dsimp only; omega)))) | ((first | apply yJ | apply yK | apply yL | apply yM | apply yN | apply yO); (· exact hgA); (· exact hsA)) | (apply yNP; (· exact hgA); (· exact hsA)) | ((first | apply zA | apply zC | apply zE | apply zG); (· omega)) | ((first | apply zB | apply zD | apply zF | apply zH); (· omega)) | ((first | apply zI | apply zK); (· with_reducible assumption)) | ((first | apply zJ | apply zL); (· with_reducible assumption)) | fail)
              conv => whnf
              apply Exists.intro (i + 1, H2)
              refine ⟨?inv, ?mu, ?wk⟩
              case wk =>
                conv => whnf
                refine weakH_of (HW.refl _) ?_
                repeat' (first | exact WT.nil | refine WT.same ?_ | refine WT.drop ?_ | refine WT.int (by omega) ?_ | refine WT.eq (by assumption) ?_ | refine WT.bl (by first | assumption | (symm; assumption)) ?_ | refine WT.vv (by assumption) ?_)
              case mu => first | omega | (dsimp only; omega)
              case inv => exact ⟨by omega, hkp2.le _ (Nat.le_refl _) hle1, hom2⟩
            | false =>
              simp only [pc, pf, Bool.false_eq_true, if_false] at hpc hpf hv fl
              repeat' ((conv => whnf); first | refine intK_mulN hNn2 ?_ | (refine intK_divN ?_ ?_; (· omega)) | refine homi.rowE (tmodN i n) hpc ?_ | refine intK_mulN hi1 ?_ | refine intK_addN hi2 ?_ | refine read_c he hts ?_ | refine homi.put2 hpc hpf (fun c f => if idx false n N c f < i + 1 then levAt e false n s c f else 0) (fun c hc f hf => fl c f hc hf) (fun H2 hom2 hkp2 => ?_); (have hz2 := hkp2.size) | ((first | (apply vB; (case h => with_reducible assumption)) | (apply vA; (case h => with_reducible assumption)) | (apply vC; (case h => with_reducible assumption))); (case hk => exact kpA); (case he => omega)) | ((first | (apply vI; (case h => with_reducible assumption)) | (apply vG; (case h => with_reducible assumption)) | (apply vK; (case h => with_reducible assumption))); (case hk => exact kpA); (case he => omega); (case hp => omega); (case' g => intro hr_ hc_)) | ((first | (apply vJ; (case h => with_reducible assumption)) | (apply vH; (case h => with_reducible assumption)) | (apply vL; (case h => with_reducible assumption))); (case hk => exact kpA); (case he => omega); (case' g => intro hr_ hc_)) | (apply drawS_auto mixed tt_ok; (· kernel_rfl)) | apply zZ | apply yA | apply yB | ((first | apply zA | apply zC | apply zE | apply zG); (· with_reducible assumption)) | ((first | apply zB | apply zD | apply zF | apply zH); (· with_reducible assumption)) | apply zM | apply zN | apply zO | apply zP | apply zQ | apply zR | apply zS | apply zT | apply zU | (apply zV; (· omega)) | (apply zW; (· omega)) | (apply zX; (· (first | omega | (dsimp only; omega)))) | (apply zY; (try (apply zY; apply zX; (· omega))); apply zX; (· omega); apply zX; (· (first | omega | (dsimp only; omega)))) | ((first | apply yJ | apply yK | apply yL | apply yM | apply yN | apply yO); (· exact hgA); (· exact hsA)) | (apply yNP; (· exact hgA); (· exact hsA)) | ((first | apply zA | apply zC | apply zE | apply zG); (· omega)) | ((first | apply zB | apply zD | apply zF | apply zH); (· omega)) | ((first | apply zI | apply zK); (· with_reducible assumption)) | ((first | apply zJ | apply zL); (· with_reducible assumption)) | fail)
              conv => whnf
              apply Exists.intro (i + 1, H2)
              refine ⟨?inv, ?mu, ?wk⟩
              case wk =>
                conv => whnf
                refine weakH_of (HW.refl _) ?_
                repeat' (first | exact WT.nil | refine WT.same ?_ | refine WT.drop ?_ | refine WT.int (by omega) ?_ | refine WT.eq (by assumption) ?_ | refine WT.bl (by first | assumption | (symm; assumption)) ?_ | refine WT.vv (by assumption) ?_)
              case mu => first | omega | (dsimp only; omega)
              case inv => exact ⟨by omega, hkp2.le _ (Nat.le_refl _) hle1, hom2⟩
          · have hin : i = N * n := by omega
            subst hin
            repeat' ((conv => whnf); first | refine intK_mulN hNn2 ?_ | ((first | (apply vB; (case h => with_reducible assumption)) | (apply vA; (case h => with_reducible assumption)) | (apply vC; (case h => with_reducible assumption))); (case hk => exact kpA); (case he => omega)) | ((first | (apply vI; (case h => with_reducible assumption)) | (apply vG; (case h => with_reducible assumption)) | (apply vK; (case h => with_reducible assumption))); (case hk => exact kpA); (case he => omega); (case hp => omega); (case' g => intro hr_ hc_)) | ((first | (apply vJ; (case h => with_reducible assumption)) | (apply vH; (case h => with_reducible assumption)) | (apply vL; (case h => with_reducible assumption))); (case hk => exact kpA); (case he => omega); (case' g => intro hr_ hc_)) | (apply drawS_auto mixed tt_ok; (· kernel_rfl)) | apply zZ | apply yA | apply yB | ((first | apply zA | apply zC | apply zE | apply zG); (· with_reducible assumption)) | ((first | apply zB | apply zD | apply zF | apply zH); (· with_reducible assumption)) | apply zM | apply zN | apply zO | apply zP | apply zQ | apply zR | apply zS | apply zT | apply zU | (apply zV; (· omega)) | (apply zW; (· omega)) | (apply zX; (· (first | omega | (dsimp only; omega)))) | (apply zY; (try (apply zY; apply zX; (· omega))); apply zX; (· omega); apply zX; (· (first | omega | (dsimp only; omega)))) | ((first | apply yJ | apply yK | apply yL | apply yM | apply yN | apply yO); (· exact hgA); (· exact hsA)) | (apply yNP; (· exact hgA); (· exact hsA)) | ((first | apply zA | apply zC | apply zE | apply zG); (· omega)) | ((first | apply zB | apply zD | apply zF | apply zH); (· omega)) | ((first | apply zI | apply zK); (· with_reducible assumption)) | ((first | apply zJ | apply zL); (· with_reducible assumption)) | fail)
            conv => whnf
            refine ⟨_, HW.fz _ H.size, h _ _ _ (AHeap.le.fz hle1 (Nat.le_refl _)) ((homi.cast (levAt e pl n s) (fun c hc f hf => by rw [if_pos (by rw [hcom]; exact idx_lt hc hf)])).fzF (Nat.le_refl _) (by unfold maxN; omega) (by unfold maxN; omega) (fun c hc f hf => ?_))⟩
            have hlb : 0 - maxF e ≤ levAt e pl n s c f ∧ levAt e pl n s c f ≤ maxF e := by unfold levAt; exact levD_bd he s _
            have hmx := maxF_bd e
            unfold inR; omega
        · rw [if_neg (fun hh => hN hh.2)] at hE1
          refine callS_walk tt_ok Try.func24 rfl (by kernel_rfl) ?_
          conv => whnf
          repeat' ((conv => whnf); first | refine refBits_v he hb8 ?_ | refine chan_t hC ?_ | (refine intK_bits ?_ ?_; (· omega)) | refine intK_mulN hm32 ?_ | refine intK_divN hs ?_ | ((first | (apply vB; (case h => with_reducible assumption)) | (apply vA; (case h => with_reducible assumption)) | (apply vC; (case h => with_reducible assumption))); (case hk => exact kpA); (case he => omega)) | ((first | (apply vI; (case h => with_reducible assumption)) | (apply vG; (case h => with_reducible assumption)) | (apply vK; (case h => with_reducible assumption))); (case hk => exact kpA); (case he => omega); (case hp => omega); (case' g => intro hr_ hc_)) | ((first | (apply vJ; (case h => with_reducible assumption)) | (apply vH; (case h => with_reducible assumption)) | (apply vL; (case h => with_reducible assumption))); (case hk => exact kpA); (case he => omega); (case' g => intro hr_ hc_)) | (apply drawS_auto mixed tt_ok; (· kernel_rfl)) | apply zZ | apply yA | apply yB | ((first | apply zA | apply zC | apply zE | apply zG); (· with_reducible assumption)) | ((first | apply zB | apply zD | apply zF | apply zH); (· with_reducible assumption)) | apply zM | apply zN | apply zO | apply zP | apply zQ | apply zR | apply zS | apply zT | apply zU | (apply zV; (· omega)) | (apply zW; (· omega)) | (apply zX; (· (first | omega | (dsimp only; omega)))) | (apply zY; (try (apply zY; apply zX; (· omega))); apply zX; (· omega); apply zX; (· (first | omega | (dsimp only; omega)))) | ((first | apply yJ | apply yK | apply yL | apply yM | apply yN | apply yO); (· exact hgA); (· exact hsA)) | (apply yNP; (· exact hgA); (· exact hsA)) | ((first | apply zA | apply zC | apply zE | apply zG); (· omega)) | ((first | apply zB | apply zD | apply zF | apply zH); (· omega)) | ((first | apply zI | apply zK); (· with_reducible assumption)) | ((first | apply zJ | apply zL); (· with_reducible assumption)) | fail)
          conv => whnf
          exact bad_ 11 hE1 (by omega)
      · rw [if_neg (fun hh => hz hh.1)] at hE1
        refine callS_walk tt_ok Try.func24 rfl (by kernel_rfl) ?_
        conv => whnf
        repeat' ((conv => whnf); first | refine refBits_v he hb8 ?_ | refine chan_t hC ?_ | (refine intK_bits ?_ ?_; (· omega)) | refine intK_mulN hm32 ?_ | refine intK_divN hs ?_ | ((first | (apply vB; (case h => with_reducible assumption)) | (apply vA; (case h => with_reducible assumption)) | (apply vC; (case h => with_reducible assumption))); (case hk => exact kpA); (case he => omega)) | ((first | (apply vI; (case h => with_reducible assumption)) | (apply vG; (case h => with_reducible assumption)) | (apply vK; (case h => with_reducible assumption))); (case hk => exact kpA); (case he => omega); (case hp => omega); (case' g => intro hr_ hc_)) | ((first | (apply vJ; (case h => with_reducible assumption)) | (apply vH; (case h => with_reducible assumption)) | (apply vL; (case h => with_reducible assumption))); (case hk => exact kpA); (case he => omega); (case' g => intro hr_ hc_)) | (apply drawS_auto mixed tt_ok; (· kernel_rfl)) | apply zZ | apply yA | apply yB | ((first | apply zA | apply zC | apply zE | apply zG); (· with_reducible assumption)) | ((first | apply zB | apply zD | apply zF | apply zH); (· with_reducible assumption)) | apply zM | apply zN | apply zO | apply zP | apply zQ | apply zR | apply zS | apply zT | apply zU | (apply zV; (· omega)) | (apply zW; (· omega)) | (apply zX; (· (first | omega | (dsimp only; omega)))) | (apply zY; (try (apply zY; apply zX; (· omega))); apply zX; (· omega); apply zX; (· (first | omega | (dsimp only; omega)))) | ((first | apply yJ | apply yK | apply yL | apply yM | apply yN | apply yO); (· exact hgA); (· exact hsA)) | (apply yNP; (· exact hgA); (· exact hsA)) | ((first | apply zA | apply zC | apply zE | apply zG); (· omega)) | ((first | apply zB | apply zD | apply zF | apply zH); (· omega)) | ((first | apply zI | apply zK); (· with_reducible assumption)) | ((first | apply zJ | apply zL); (· with_reducible assumption)) | fail)
        conv => whnf
        exact bad_ 11 hE1 (by omega)
    · have hE : decE e C s = 7 := by unfold decE; rw [if_neg (fun hh => hC hh.2)]
      refine callS_walk tt_ok Try.func24 rfl (by kernel_rfl) ?_
      conv => whnf
      repeat' ((conv => whnf); first | refine refBits_t he ?_ | refine chan_f hC ?_ | ((first | (apply vB; (case h => with_reducible assumption)) | (apply vA; (case h => with_reducible assumption)) | (apply vC; (case h => with_reducible assumption))); (case hk => exact kpA); (case he => omega)) | ((first | (apply vI; (case h => with_reducible assumption)) | (apply vG; (case h => with_reducible assumption)) | (apply vK; (case h => with_reducible assumption))); (case hk => exact kpA); (case he => omega); (case hp => omega); (case' g => intro hr_ hc_)) | ((first | (apply vJ; (case h => with_reducible assumption)) | (apply vH; (case h => with_reducible assumption)) | (apply vL; (case h => with_reducible assumption))); (case hk => exact kpA); (case he => omega); (case' g => intro hr_ hc_)) | (apply drawS_auto mixed tt_ok; (· kernel_rfl)) | apply zZ | apply yA | apply yB | ((first | apply zA | apply zC | apply zE | apply zG); (· with_reducible assumption)) | ((first | apply zB | apply zD | apply zF | apply zH); (· with_reducible assumption)) | apply zM | apply zN | apply zO | apply zP | apply zQ | apply zR | apply zS | apply zT | apply zU | (apply zV; (· omega)) | (apply zW; (· omega)) | (apply zX; (· (first | omega | (dsimp only; omega)))) | (apply zY; (try (apply zY; apply zX; (· omega))); apply zX; (· omega); apply zX; (· (first | omega | (dsimp only; omega)))) | ((first | apply yJ | apply yK | apply yL | apply yM | apply yN | apply yO); (· exact hgA); (· exact hsA)) | (apply yNP; (· exact hgA); (· exact hsA)) | ((first | apply zA | apply zC | apply zE | apply zG); (· omega)) | ((first | apply zB | apply zD | apply zF | apply zH); (· omega)) | ((first | apply zI | apply zK); (· with_reducible assumption)) | ((first | apply zJ | apply zL); (· with_reducible assumption)) | fail)
      conv => whnf
      exact bad_ 7 hE (by omega)
  · have hE : decE e C s = 7 := by unfold decE; rw [if_neg (fun hh => he hh.1)]
    refine callS_walk tt_ok Try.func24 rfl (by kernel_rfl) ?_
    conv => whnf
    repeat' ((conv => whnf); first | refine refBits_f he ?_ | ((first | (apply vB; (case h => with_reducible assumption)) | (apply vA; (case h => with_reducible assumption)) | (apply vC; (case h => with_reducible assumption))); (case hk => exact kpA); (case he => omega)) | ((first | (apply vI; (case h => with_reducible assumption)) | (apply vG; (case h => with_reducible assumption)) | (apply vK; (case h => with_reducible assumption))); (case hk => exact kpA); (case he => omega); (case hp => omega); (case' g => intro hr_ hc_)) | ((first | (apply vJ; (case h => with_reducible assumption)) | (apply vH; (case h => with_reducible assumption)) | (apply vL; (case h => with_reducible assumption))); (case hk => exact kpA); (case he => omega); (case' g => intro hr_ hc_)) | (apply drawS_auto mixed tt_ok; (· kernel_rfl)) | apply zZ | apply yA | apply yB | ((first | apply zA | apply zC | apply zE | apply zG); (· with_reducible assumption)) | ((first | apply zB | apply zD | apply zF | apply zH); (· with_reducible assumption)) | apply zM | apply zN | apply zO | apply zP | apply zQ | apply zR | apply zS | apply zT | apply zU | (apply zV; (· omega)) | (apply zW; (· omega)) | (apply zX; (· (first | omega | (dsimp only; omega)))) | (apply zY; (try (apply zY; apply zX; (· omega))); apply zX; (· omega); apply zX; (· (first | omega | (dsimp only; omega)))) | ((first | apply yJ | apply yK | apply yL | apply yM | apply yN | apply yO); (· exact hgA); (· exact hsA)) | (apply yNP; (· exact hgA); (· exact hsA)) | ((first | apply zA | apply zC | apply zE | apply zG); (· omega)) | ((first | apply zB | apply zD | apply zF | apply zH); (· omega)) | ((first | apply zI | apply zK); (· with_reducible assumption)) | ((first | apply zJ | apply zL); (· with_reducible assumption)) | fail)
    conv => whnf
    exact bad_ 7 hE (by omega)
end Go.Abs
