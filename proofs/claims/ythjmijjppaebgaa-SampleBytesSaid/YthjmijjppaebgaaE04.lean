/- Contracts of Decode, the program's. -/
import Derived.Test.YthjmijjppaebgaaB04
set_option linter.all false
set_option maxHeartbeats 2000000
set_option maxRecDepth 20000
namespace Go.Abs
open Go Go.Proofs

def idx (pl : Bool) (C N c f : Nat) : Nat := if pl = true then c * N + f else f * C + c
theorem idx_place {pl : Bool} {C N i : Nat} : idx pl C N (pc C N pl i) (pf C N pl i) = i := by
  unfold idx pc pf
  cases pl with
  | true =>
    simp only [if_true]
    rw [Nat.mul_comm]; exact Nat.div_add_mod i N
  | false =>
    simp only [Bool.false_eq_true, if_false]
    rw [Nat.mul_comm]; exact Nat.div_add_mod i C
theorem place_idx {pl : Bool} {C N c f : Nat} (hc : c < C) (hf : f < N) : pc C N pl (idx pl C N c f) = c ∧ pf C N pl (idx pl C N c f) = f := by
  unfold idx pc pf
  cases pl with
  | true =>
    simp only [if_true]
    rw [Nat.mul_comm]
    exact ⟨by rw [Nat.mul_add_div (by omega), Nat.div_eq_of_lt hf]; rfl, by rw [Nat.mul_add_mod, Nat.mod_eq_of_lt hf]⟩
  | false =>
    simp only [Bool.false_eq_true, if_false]
    rw [Nat.mul_comm]
    exact ⟨by rw [Nat.mul_add_mod, Nat.mod_eq_of_lt hc], by rw [Nat.mul_add_div (by omega), Nat.div_eq_of_lt hc]; rfl⟩
theorem idx_lt {pl : Bool} {C N c f : Nat} (hc : c < C) (hf : f < N) : idx pl C N c f < C * N := by
  unfold idx
  cases pl with
  | true =>
    simp only [if_true]
    calc c * N + f < c * N + N := by omega
      _ = (c + 1) * N := by rw [Nat.add_mul]; omega
      _ ≤ C * N := Nat.mul_le_mul_right _ hc
  | false =>
    simp only [Bool.false_eq_true, if_false]
    calc f * C + c < f * C + C := by omega
      _ = (f + 1) * C := by rw [Nat.add_mul]; omega
      _ ≤ N * C := Nat.mul_le_mul_right _ hf
      _ = C * N := Nat.mul_comm _ _
theorem fill_idx {pl : Bool} {C N i : Nat} {g : Nat → Nat → Int} {v : Int} (hv : v = g (pc C N pl i) (pf C N pl i)) (hi : i < C * N) (c f : Nat) (hc : c < C) (hf : f < N) :
    (if c = pc C N pl i ∧ f = pf C N pl i then v else if idx pl C N c f < i then g c f else 0) = if idx pl C N c f < i + 1 then g c f else 0 := by
  by_cases h : c = pc C N pl i ∧ f = pf C N pl i
  · rw [if_pos h, hv]
    obtain ⟨rfl, rfl⟩ := h
    rw [idx_place, if_pos (by omega)]
  · rw [if_neg h]
    have hne : idx pl C N c f ≠ i := fun e => by
      obtain ⟨h1, h2⟩ := place_idx (pl := pl) hc hf
      rw [e] at h1 h2
      exact h ⟨h1.symm, h2.symm⟩
    by_cases h2 : idx pl C N c f < i
    · rw [if_pos h2, if_pos (by omega)]
    · rw [if_neg h2, if_neg (by omega)]
def decN (e : Int) (C : Nat) (s : ByteArray) : Nat := s.size / (nB e * C)
def decE (e C : Int) (s : ByteArray) : Int := if enc e ∧ 1 ≤ C ∧ C ≤ 8 then if s.size % (nB e * C.toNat) = 0 ∧ decN e C.toNat s ≤ 4096 then 0 else 11 else 7
def levAt (e : Int) (pl : Bool) (C : Nat) (s : ByteArray) (c f : Nat) : Int := levD e s (nB e * idx pl C (decN e C s) c f)
def levM (e : Int) (pl : Bool) (C : Int) (s : ByteArray) : List (List Int) := if decE e C s = 0 then matF (levAt e pl C.toNat s) C.toNat (decN e C.toNat s) else []
def decM (e : Int) (pl : Bool) (C : Int) (s : ByteArray) : List (List Int) := if decE e C s = 0 then matF (fun c f => sampF e (levAt e pl C.toNat s c f)) C.toNat (decN e C.toNat s) else []
theorem ext_ext {s : ByteArray} {a n b : Nat} (h : b = (s.extract a s.size).size) : (s.extract a s.size).extract n b = s.extract (a + n) s.size := by
  subst h
  apply ByteArray.ext
  simp only [ByteArray.data_extract, ByteArray.size_extract, Array.extract_extract]
  congr 1
  have : s.size = s.data.size := rfl
  omega
theorem ext0 (s : ByteArray) : s.extract 0 s.size = s := by simp
theorem rawD_ext {e : Int} {s : ByteArray} {a : Nat} (h : a + nB e ≤ s.size) : rawD e (s.extract a s.size) 0 = rawD e s a := by
  unfold rawD
  have hb : bytesAt (s.extract a s.size) 0 (nB e) (bigE e) = bytesAt s a (nB e) (bigE e) := bytesAt_congr fun k hk => by
    rw [Nat.zero_add, sAt_extract (by omega) (Nat.le_refl _)]
  rw [hb]
  by_cases h2 : e = 2
  · subst h2
    have h1 : nB 2 = 1 := rfl
    rw [if_pos rfl, if_pos rfl, sAt_extract (by omega) (Nat.le_refl _)]
    rfl
  · rw [if_neg h2, if_neg h2]
theorem sampF_bd {e l : Int} (hl : 0 - maxF e ≤ l ∧ l ≤ maxF e) : -8388607 ≤ sampF e l ∧ sampF e l ≤ 8388607 := by
  unfold sampF
  split
  · unfold clipS; omega
  · unfold maxF at hl
    unfold unitF
    split
    · rw [if_neg (by omega), if_neg (by omega), if_pos (by omega)] at hl; omega
    · split
      · rw [if_pos (by assumption)] at hl; omega
      · rw [if_neg (by assumption), if_pos (by omega)] at hl; omega
theorem cod_form {e : Int} (he : enc e) : ∃ t x, codAt e = .iface t x := by
  rcases cod_cases he with ⟨b, g, h⟩ | h
  · exact ⟨_, _, h⟩
  · exact ⟨_, _, h⟩
theorem bits_w {e b : Int} {w : Value} (hw : codAt e = w) (he : enc e) (hb : bitsF e = b) {H : AHeap} {K : CK} (h : K (.returned (iv b)) H) : invS P w "continuo/sample.bits" [] H K := hw ▸ bits_v he hb h
theorem take_w {e : Int} {w : Value} {t : ByteArray} (hw : codAt e = w) (he : enc e) (ht : nB e ≤ t.size) {H : AHeap} {K : CK} (h : K (.returned (iv (rawD e t 0))) H) : invS P w "continuo/sample.take" [.string t] H K := hw ▸ take_v he ht h
theorem sampled_w {e l : Int} {w : Value} (hw : codAt e = w) (he : enc e) (hl : 0 - maxF e ≤ l ∧ l ≤ maxF e) {H : AHeap} {K : CK} (h : K (.returned (iv (sampF e l))) H) : callS P (fnV 55) [w, iv l] H K := hw ▸ sampled_c he hl h
attribute [local irreducible] sampF rawD levD levAt nB decN idx pc pf maxF decE leV bytesAt
theorem decode_c {e C : Int} {pl : Bool} {s : ByteArray} (hs : s.size ≤ 1000000) {H : AHeap} {K : CK}
    (h : ∀ H' p' c', H.le H' → Mat H' p' (decM e pl C s) → K (.returned (.tuple #[.slice p' (decM e pl C s).length c', iv (decE e C s)])) H') : callS P (fnV 39) [iv e, .bool pl, iv C, .string s] H K := by
  have bad_ : ∀ H' ec, decE e C s = ec → ec ≠ 0 → H.le H' → K (.returned (.tuple #[.slice none 0 0, iv ec])) H' := fun H' ec he hne hle => by
    have hM : decM e pl C s = [] := by unfold decM; rw [he, if_neg hne]
    have := h H' none 0 hle (by rw [hM]; exact .nil)
    rw [hM, he] at this; exact this
  by_cases he : enc e
  · by_cases hC : 1 ≤ C ∧ C ≤ 8
    · obtain ⟨n, rfl⟩ := Int.eq_ofNat_of_zero_le (by omega : 0 ≤ C)
      obtain ⟨hb8, hn1, hn4⟩ := nB_bits he
      obtain ⟨ct, cx, hcod⟩ := cod_form he
      have hE1 : decE e n s = if s.size % (nB e * n) = 0 ∧ s.size / (nB e * n) ≤ 4096 then 0 else 11 := by unfold decE; rw [if_pos ⟨he, hC⟩, Int.toNat_natCast]; unfold decN; rfl
      have hm : nB e * n ≤ 4 * 8 := Nat.mul_le_mul hn4 (by omega)
      have hm0 : 0 < nB e * n := Nat.mul_pos hn1 (by omega)
      have e0 : ((nB e : Nat) : Int) * (n : Int) = ((nB e * n : Nat) : Int) := by push_cast; rfl
      have e1 : (s.size : Int).tdiv ((nB e * n : Nat) : Int) = ((s.size / (nB e * n) : Nat) : Int) := by rw [Int.tdiv_eq_ediv_of_nonneg (by omega), Int.natCast_ediv]
      have e2 : (s.size : Int).tmod ((nB e * n : Nat) : Int) = ((s.size % (nB e * n) : Nat) : Int) := by rw [Int.tmod_eq_emod_of_nonneg (by omega), Int.natCast_emod]
      have d1 : s.size / (nB e * n) ≤ s.size := Nat.div_le_self _ _
      have d2 : s.size % (nB e * n) ≤ s.size := Nat.mod_le _ _
      have e3 : (8 * ((nB e : Nat) : Int)).tdiv 8 = (nB e : Nat) := by rw [Int.tdiv_eq_ediv_of_nonneg (by omega)]; omega
      by_cases hz : s.size % (nB e * n) = 0
      · by_cases hN : s.size / (nB e * n) ≤ 4096
        · have hsN : nB e * n * (s.size / (nB e * n)) = s.size := by have := Nat.div_add_mod s.size (nB e * n); omega
          have hNd : decN e n s = s.size / (nB e * n) := by unfold decN; rfl
          generalize s.size / (nB e * n) = N at *
          refine callS_post ?_
          refine callS_walk tt_ok Try.func39 rfl (by kernel_rfl) ?_
          conv => whnf
          repeat' ((conv => whnf); first | (apply known_t; (· with_reducible assumption)) | refine within_t hC ?_ | (apply codings_c) | (refine loadK_cod he ?_ ?_; (· exact hgA); rw [hcod]) | refine bits_w hcod he hb8 ?_ | refine intK_eq e0 (rngN (Nat.le_refl _) (by omega)) ?_ | refine intK_eq e1 (rngN d1 hs) ?_ | refine intK_eq e2 (rngN d2 hs) ?_ | refine intK_eq e3 (rngN (Nat.le_refl _) (by omega)) ?_ | (refine silent_c (n := n) (m := N) ?_ (fun H1 o rs hle hom => ?_); (· omega); have hs1 : H.size + 4 ≤ H1.size := hle.size; have gs1 : H1.get H.size = some (.cells [.string s] true 0) := (hle.get H.size hoA).trans hgA; have gc1 : H1.get (H.size + 2) = some (.cells [.iface ct cx] true 0) := (hle.get (H.size + 2) hoA).trans hgA; have gn1 : H1.get (H.size + 3) = some (.cells [iv (nB e : Nat)] true 0) := (hle.get (H.size + 3) hoA).trans hgA; have nin : ∀ {j : Nat}, (j < H.size + 4 ∨ H1.size ≤ j) → j ∉ rs := fun hj hm => (by have h1 := hom.lt.2 _ hm; have h2 := hom.lo.2 _ hm; have h3 : H.size + 4 ≤ _ := h2; omega)) | (refine callS_walk tt_ok Try.func60 rfl (by kernel_rfl) ?_) | ((first | (apply vB; (case h => with_reducible assumption)) | (apply vA; (case h => with_reducible assumption)) | (apply vC; (case h => with_reducible assumption)) | (apply vE; (case h => with_reducible assumption))); (case hk => exact kpA); (case he => omega)) | ((first | (apply vI; (case h => with_reducible assumption)) | (apply vG; (case h => with_reducible assumption)) | (apply vK; (case h => with_reducible assumption))); (case hk => exact kpA); (case he => omega); (case hp => omega); (case' g => intro hr_ hc_)) | ((first | (apply vJ; (case h => with_reducible assumption)) | (apply vH; (case h => with_reducible assumption)) | (apply vL; (case h => with_reducible assumption))); (case hk => exact kpA); (case he => omega); (case' g => intro hr_ hc_)) | (apply drawS_auto mixed tt_ok; (· kernel_rfl)) | apply zZ | apply yA | apply yB | ((first | apply zA | apply zC | apply zE | apply zG); (· with_reducible assumption)) | ((first | apply zB | apply zD | apply zF | apply zH); (· with_reducible assumption)) | apply zM | apply zN | apply zO | apply zP | apply zQ | apply zR | apply zS | apply zT | apply zU | (apply zV; (· omega)) | (apply zW; (· omega)) | (apply zX; (· (first | omega | (dsimp only; omega)))) | (apply zY; (try (apply zY; apply zX; (· omega))); apply zX; (· omega); apply zX; (· (first | omega | (dsimp only; omega)))) | ((first | apply yJ | apply yK | apply yL | apply yM | apply yN | apply yO); (· exact hgA); (· exact hsA)) | (apply yNP; (· exact hgA); (· exact hsA)) | ((first | apply zA | apply zC | apply zE | apply zG); (· omega)) | ((first | apply zB | apply zD | apply zF | apply zH); (· omega)) | ((first | apply zI | apply zK); (· with_reducible assumption)) | ((first | apply zJ | apply zL); (· with_reducible assumption)) | ((first | apply xA | apply xC | apply xE | apply xG); (· first | assumption | rfl)) | ((first | apply xB | apply xD | apply xF | apply xH); (· first | assumption | kernel_rfl)) | fail)
          conv => whnf
          have hoj : ∀ j, j = o ∨ j ∈ rs → j < H1.size := fun j hj => by
            rcases hj with rfl | hj
            · exact hom.lt.1
            · exact hom.lt.2 _ hj
          simp only [AHeap.push_size, AHeap.set_size]
          refine places_c (C := n) (N := N) (pl := pl) (I := fun Hb i HH => Hb.size ≤ HH.size ∧ (∀ j, j < Hb.size → j ≠ H.size → j ∉ rs → HH.get j = Hb.get j) ∧ HH.get H.size = some (.cells [.string (s.extract (i * nB e) s.size)] true 0) ∧
            OMat HH (H.size + 4) o rs (matF (fun c f => if idx pl n N c f < i then sampF e (levAt e pl n s c f) else 0) n (N)) []) (by omega) hN ?_ ?_ ?_ ?_
          · rintro i HH ⟨hsz, hsame, _⟩
            exact ⟨(hsame (H1.size + 1) hoA (by omega) (nin (by omega))).trans hgA, (hsame (H1.size + 2) hoA (by omega) (nin (by omega))).trans hgA, (hsame (H1.size + 3) hoA (by omega) (nin (by omega))).trans hgA⟩
          · refine ⟨Nat.le_refl _, fun _ _ _ _ => rfl, ?_, ?_⟩
            · rw [Nat.zero_mul, ext0]
              exact hgA
            · exact (hom.cast _ (fun i hi c hc => by simp)).of_get hoA (fun j hj _ => hgA)
          · rintro i HH K1 hi ⟨hsz, hsame, gstr, homi⟩ hK
            have hsz' : H1.size + 6 ≤ HH.size := hsz
            have gl : HH.get (H1.size + 5) = some (.loop _) := (hsame (H1.size + 5) hoA (by omega) (nin (by omega))).trans hgA
            have go : HH.get H1.size = some (.cells [.slice (some ⟨o, 0, none⟩) n n] true 0) := (hsame H1.size hoA (by omega) (nin (by omega))).trans hgA
            have gc : HH.get (H.size + 2) = some (.cells [.iface ct cx] true 0) := (hsame (H.size + 2) hoA (by omega) (nin (by omega))).trans hgA
            have gn : HH.get (H.size + 3) = some (.cells [iv (nB e : Nat)] true 0) := (hsame (H.size + 3) hoA (by omega) (nin (by omega))).trans hgA
            have hpc := pc_lt (pl := pl) (by omega : 0 < n) hi
            have hpf := pf_lt (C := n) (pl := pl) hi
            have hia : i * nB e + nB e ≤ s.size := by
              have h1 : (i + 1) * nB e ≤ n * N * nB e := Nat.mul_le_mul_right _ hi
              have h2 : n * N * nB e = s.size := by rw [← hsN, Nat.mul_comm, Nat.mul_assoc]
              rw [Nat.add_mul, Nat.one_mul] at h1
              omega
            have hts : (s.extract (i * nB e) s.size).size = s.size - i * nB e := by rw [ByteArray.size_extract, Nat.min_self]
            have hv : sampF e (max (rawD e (s.extract (i * nB e) s.size) 0) (0 - maxF e)) = sampF e (levAt e pl n s (pc n N pl i) (pf n N pl i)) := by
              unfold levAt levD
              rw [hNd, idx_place, rawD_ext hia, Nat.mul_comm]
            have hlb := levD_bd he (s.extract (i * nB e) s.size) 0
            unfold levD at hlb
            have hmx := maxF_bd e
            refine callS_round tt_ok ?_
            repeat' ((conv => whnf); first | refine (homi.of_get hoA (fun j hj hjm => AHeap.set_ne _ _ (by have := hoj j hjm; simp; omega))).row hpc ?_ | (refine take_w hcod he ?_ ?_; (· rw [hts]; omega)) | refine bits_w hcod he hb8 ?_ | refine top_c he hb8 ?_ | refine sampled_w hcod he hlb ?_ | refine (homi.of_get hoA (fun j hj hjm => AHeap.set_ne _ _ (by have := hoj j hjm; simp; omega))).put2 hpc hpf (fun c f => if idx pl n N c f < i + 1 then sampF e (levAt e pl n s c f) else 0) (fun c hc f hf => fill_idx (g := fun c f => sampF e (levAt e pl n s c f)) hv hi c f hc hf) (fun H2 hom2 hkp2 => ?_); (have gs2 : H2.get H.size = some (.cells [.string (s.extract (i * nB e) s.size)] true 0) := (hkp2.get _ (nin (by omega))).trans hgA); (have gn2 : H2.get (H.size + 3) = some (.cells [iv (nB e : Nat)] true 0) := (hkp2.get _ (nin (by omega))).trans hgA); (have gl2 : H2.get (H1.size + 5) = some (.loop _) := (hkp2.get _ (nin (by omega))).trans hgA); (have hz2 : H2.size = HH.size := hkp2.size.trans (by simp)) | ((first | (apply vB; (case h => with_reducible assumption)) | (apply vA; (case h => with_reducible assumption)) | (apply vC; (case h => with_reducible assumption)) | (apply vE; (case h => with_reducible assumption))); (case hk => exact kpA); (case he => omega)) | ((first | (apply vI; (case h => with_reducible assumption)) | (apply vG; (case h => with_reducible assumption)) | (apply vK; (case h => with_reducible assumption))); (case hk => exact kpA); (case he => omega); (case hp => omega); (case' g => intro hr_ hc_)) | ((first | (apply vJ; (case h => with_reducible assumption)) | (apply vH; (case h => with_reducible assumption)) | (apply vL; (case h => with_reducible assumption))); (case hk => exact kpA); (case he => omega); (case' g => intro hr_ hc_)) | (apply drawS_auto mixed tt_ok; (· kernel_rfl)) | apply zZ | apply yA | apply yB | ((first | apply zA | apply zC | apply zE | apply zG); (· with_reducible assumption)) | ((first | apply zB | apply zD | apply zF | apply zH); (· with_reducible assumption)) | apply zM | apply zN | apply zO | apply zP | apply zQ | apply zR | apply zS | apply zT | apply zU | (apply zV; (· omega)) | (apply zW; (· omega)) | (apply zX; (· (first | omega | (dsimp only; omega)))) | (apply zY; (try (apply zY; apply zX; (· omega))); apply zX; (· omega); apply zX; (· (first | omega | (dsimp only; omega)))) | ((first | apply yJ | apply yK | apply yL | apply yM | apply yN | apply yO); (· exact hgA); (· exact hsA)) | (apply yNP; (· exact hgA); (· exact hsA)) | ((first | apply zA | apply zC | apply zE | apply zG); (· omega)) | ((first | apply zB | apply zD | apply zF | apply zH); (· omega)) | ((first | apply zI | apply zK); (· with_reducible assumption)) | ((first | apply zJ | apply zL); (· with_reducible assumption)) | ((first | apply xA | apply xC | apply xE | apply xG); (· first | assumption | rfl)) | ((first | apply xB | apply xD | apply xF | apply xH); (· first | assumption | kernel_rfl)) | fail)
            conv => whnf
            have hex : (s.extract (i * nB e) s.size).extract ((nB e : Nat) : Int).toNat (((s.extract (i * nB e) s.size).size : Nat) : Int).toNat = s.extract ((i + 1) * nB e) s.size := by
              rw [ext_ext (Int.toNat_natCast _), Int.toNat_natCast, Nat.add_mul, Nat.one_mul]
            rw [hex]
            refine hK _ ⟨hoA, fun j hj hj1 hj2 => ?_, hgA, hom2.of_get hoA (fun j hj hjm => ?_)⟩
            · have hj6 : j < H1.size + 6 := hj
              by_cases hl : j = H1.size + 5
              · subst hl
                exact Eq.trans hgA (Eq.symm hgA)
              · exact (AHeap.set_ne _ _ hl).trans ((AHeap.set_ne _ _ hj1).trans ((hkp2.get j hj2).trans ((AHeap.set_ne _ _ hl).trans (hsame j hj hj1 hj2))))
            · have h1 := hoj j hjm
              have h2 : H.size + 4 ≤ j := by
                rcases hjm with rfl | hjm
                · exact hom2.lo.1
                · exact hom2.lo.2 _ hjm
              exact (AHeap.set_ne _ _ (by omega)).trans (AHeap.set_ne _ _ (by omega))
          · rintro HH ⟨hsz, hsame, gstr, homi⟩
            have hsz' : H1.size + 6 ≤ HH.size := hsz
            have gl : HH.get (H1.size + 5) = some (.loop _) := (hsame (H1.size + 5) hoA (by omega) (nin (by omega))).trans hgA
            have gd : HH.get (H1.size + 4) = some (.deferred []) := (hsame (H1.size + 4) hoA (by omega) (nin (by omega))).trans hgA
            have go : HH.get H1.size = some (.cells [.slice (some ⟨o, 0, none⟩) n n] true 0) := (hsame H1.size hoA (by omega) (nin (by omega))).trans hgA
            have hle0 : H.le H1 := AHeap.le.trans leA hle
            have hleH : H.le HH := ⟨by omega, fun j hj => (hsame j hoA (by omega) (nin (by omega))).trans (AHeap.le.get leA j hj)⟩
            have hE : decE e n s = 0 := by rw [hE1, if_pos ⟨hz, hN⟩]
            have hM : decM e pl n s = matF (fun c f => sampF e (levAt e pl n s c f)) n N := by rw [decM, if_pos hE, Int.toNat_natCast, hNd]
            have hom6 := homi.cast (fun c f => sampF e (levAt e pl n s c f)) (fun c hc f hf => by rw [if_pos (idx_lt hc hf)])
            rw [hE, hM, matF_len] at h
            repeat' ((conv => whnf); first | ((first | (apply vB; (case h => with_reducible assumption)) | (apply vA; (case h => with_reducible assumption)) | (apply vC; (case h => with_reducible assumption)) | (apply vE; (case h => with_reducible assumption))); (case hk => exact kpA); (case he => omega)) | ((first | (apply vI; (case h => with_reducible assumption)) | (apply vG; (case h => with_reducible assumption)) | (apply vK; (case h => with_reducible assumption))); (case hk => exact kpA); (case he => omega); (case hp => omega); (case' g => intro hr_ hc_)) | ((first | (apply vJ; (case h => with_reducible assumption)) | (apply vH; (case h => with_reducible assumption)) | (apply vL; (case h => with_reducible assumption))); (case hk => exact kpA); (case he => omega); (case' g => intro hr_ hc_)) | (apply drawS_auto mixed tt_ok; (· kernel_rfl)) | apply zZ | apply yA | apply yB | ((first | apply zA | apply zC | apply zE | apply zG); (· with_reducible assumption)) | ((first | apply zB | apply zD | apply zF | apply zH); (· with_reducible assumption)) | apply zM | apply zN | apply zO | apply zP | apply zQ | apply zR | apply zS | apply zT | apply zU | (apply zV; (· omega)) | (apply zW; (· omega)) | (apply zX; (· (first | omega | (dsimp only; omega)))) | (apply zY; (try (apply zY; apply zX; (· omega))); apply zX; (· omega); apply zX; (· (first | omega | (dsimp only; omega)))) | ((first | apply yJ | apply yK | apply yL | apply yM | apply yN | apply yO); (· exact hgA); (· exact hsA)) | (apply yNP; (· exact hgA); (· exact hsA)) | ((first | apply zA | apply zC | apply zE | apply zG); (· omega)) | ((first | apply zB | apply zD | apply zF | apply zH); (· omega)) | ((first | apply zI | apply zK); (· with_reducible assumption)) | ((first | apply zJ | apply zL); (· with_reducible assumption)) | ((first | apply xA | apply xC | apply xE | apply xG); (· first | assumption | rfl)) | ((first | apply xB | apply xD | apply xF | apply xH); (· first | assumption | kernel_rfl)) | fail)
            conv => whnf
            refine ⟨_, HW.fz _ H.size, h _ _ _ (AHeap.le.fz leA (Nat.le_refl _)) ((hom6.of_get hoA (fun j hj hjm => ?_)).fzF (by omega) (by unfold maxN; omega) (by unfold maxN; omega) (fun c hc f hf => ?_))⟩
            · have h1 := hoj j hjm
              exact (AHeap.kill_ne _ (by omega)).trans (AHeap.kill_ne _ (by omega))
            · have hsb : -8388607 ≤ sampF e (levAt e pl n s c f) ∧ sampF e (levAt e pl n s c f) ≤ 8388607 := sampF_bd (by unfold levAt; exact levD_bd he s _)
              unfold inR; omega
        · rw [if_neg (fun hh => hN hh.2)] at hE1
          refine callS_walk tt_ok Try.func39 rfl (by kernel_rfl) ?_
          conv => whnf
          repeat' ((conv => whnf); first | (apply known_t; (· with_reducible assumption)) | refine within_t hC ?_ | (apply codings_c) | (refine loadK_cod he ?_ ?_; (· exact hgA); rw [hcod]) | refine bits_w hcod he hb8 ?_ | refine intK_eq e0 (rngN (Nat.le_refl _) (by omega)) ?_ | refine intK_eq e1 (rngN d1 hs) ?_ | refine intK_eq e2 (rngN d2 hs) ?_ | refine intK_eq e3 (rngN (Nat.le_refl _) (by omega)) ?_ | ((first | (apply vB; (case h => with_reducible assumption)) | (apply vA; (case h => with_reducible assumption)) | (apply vC; (case h => with_reducible assumption)) | (apply vE; (case h => with_reducible assumption))); (case hk => exact kpA); (case he => omega)) | ((first | (apply vI; (case h => with_reducible assumption)) | (apply vG; (case h => with_reducible assumption)) | (apply vK; (case h => with_reducible assumption))); (case hk => exact kpA); (case he => omega); (case hp => omega); (case' g => intro hr_ hc_)) | ((first | (apply vJ; (case h => with_reducible assumption)) | (apply vH; (case h => with_reducible assumption)) | (apply vL; (case h => with_reducible assumption))); (case hk => exact kpA); (case he => omega); (case' g => intro hr_ hc_)) | (apply drawS_auto mixed tt_ok; (· kernel_rfl)) | apply zZ | apply yA | apply yB | ((first | apply zA | apply zC | apply zE | apply zG); (· with_reducible assumption)) | ((first | apply zB | apply zD | apply zF | apply zH); (· with_reducible assumption)) | apply zM | apply zN | apply zO | apply zP | apply zQ | apply zR | apply zS | apply zT | apply zU | (apply zV; (· omega)) | (apply zW; (· omega)) | (apply zX; (· (first | omega | (dsimp only; omega)))) | (apply zY; (try (apply zY; apply zX; (· omega))); apply zX; (· omega); apply zX; (· (first | omega | (dsimp only; omega)))) | ((first | apply yJ | apply yK | apply yL | apply yM | apply yN | apply yO); (· exact hgA); (· exact hsA)) | (apply yNP; (· exact hgA); (· exact hsA)) | ((first | apply zA | apply zC | apply zE | apply zG); (· omega)) | ((first | apply zB | apply zD | apply zF | apply zH); (· omega)) | ((first | apply zI | apply zK); (· with_reducible assumption)) | ((first | apply zJ | apply zL); (· with_reducible assumption)) | ((first | apply xA | apply xC | apply xE | apply xG); (· first | assumption | rfl)) | ((first | apply xB | apply xD | apply xF | apply xH); (· first | assumption | kernel_rfl)) | fail)
          conv => whnf
          exact bad_ _ 11 hE1 (by omega) leA
      · rw [if_neg (fun hh => hz hh.1)] at hE1
        refine callS_walk tt_ok Try.func39 rfl (by kernel_rfl) ?_
        conv => whnf
        repeat' ((conv => whnf); first | (apply known_t; (· with_reducible assumption)) | refine within_t hC ?_ | (apply codings_c) | (refine loadK_cod he ?_ ?_; (· exact hgA); rw [hcod]) | refine bits_w hcod he hb8 ?_ | refine intK_eq e0 (rngN (Nat.le_refl _) (by omega)) ?_ | refine intK_eq e1 (rngN d1 hs) ?_ | refine intK_eq e2 (rngN d2 hs) ?_ | refine intK_eq e3 (rngN (Nat.le_refl _) (by omega)) ?_ | ((first | (apply vB; (case h => with_reducible assumption)) | (apply vA; (case h => with_reducible assumption)) | (apply vC; (case h => with_reducible assumption)) | (apply vE; (case h => with_reducible assumption))); (case hk => exact kpA); (case he => omega)) | ((first | (apply vI; (case h => with_reducible assumption)) | (apply vG; (case h => with_reducible assumption)) | (apply vK; (case h => with_reducible assumption))); (case hk => exact kpA); (case he => omega); (case hp => omega); (case' g => intro hr_ hc_)) | ((first | (apply vJ; (case h => with_reducible assumption)) | (apply vH; (case h => with_reducible assumption)) | (apply vL; (case h => with_reducible assumption))); (case hk => exact kpA); (case he => omega); (case' g => intro hr_ hc_)) | (apply drawS_auto mixed tt_ok; (· kernel_rfl)) | apply zZ | apply yA | apply yB | ((first | apply zA | apply zC | apply zE | apply zG); (· with_reducible assumption)) | ((first | apply zB | apply zD | apply zF | apply zH); (· with_reducible assumption)) | apply zM | apply zN | apply zO | apply zP | apply zQ | apply zR | apply zS | apply zT | apply zU | (apply zV; (· omega)) | (apply zW; (· omega)) | (apply zX; (· (first | omega | (dsimp only; omega)))) | (apply zY; (try (apply zY; apply zX; (· omega))); apply zX; (· omega); apply zX; (· (first | omega | (dsimp only; omega)))) | ((first | apply yJ | apply yK | apply yL | apply yM | apply yN | apply yO); (· exact hgA); (· exact hsA)) | (apply yNP; (· exact hgA); (· exact hsA)) | ((first | apply zA | apply zC | apply zE | apply zG); (· omega)) | ((first | apply zB | apply zD | apply zF | apply zH); (· omega)) | ((first | apply zI | apply zK); (· with_reducible assumption)) | ((first | apply zJ | apply zL); (· with_reducible assumption)) | ((first | apply xA | apply xC | apply xE | apply xG); (· first | assumption | rfl)) | ((first | apply xB | apply xD | apply xF | apply xH); (· first | assumption | kernel_rfl)) | fail)
        conv => whnf
        exact bad_ _ 11 hE1 (by omega) leA
    · have hE : decE e C s = 7 := by unfold decE; rw [if_neg (fun hh => hC hh.2)]
      refine callS_walk tt_ok Try.func39 rfl (by kernel_rfl) ?_
      conv => whnf
      repeat' ((conv => whnf); first | (apply known_t; (· with_reducible assumption)) | refine within_f hC ?_ | ((first | (apply vB; (case h => with_reducible assumption)) | (apply vA; (case h => with_reducible assumption)) | (apply vC; (case h => with_reducible assumption)) | (apply vE; (case h => with_reducible assumption))); (case hk => exact kpA); (case he => omega)) | ((first | (apply vI; (case h => with_reducible assumption)) | (apply vG; (case h => with_reducible assumption)) | (apply vK; (case h => with_reducible assumption))); (case hk => exact kpA); (case he => omega); (case hp => omega); (case' g => intro hr_ hc_)) | ((first | (apply vJ; (case h => with_reducible assumption)) | (apply vH; (case h => with_reducible assumption)) | (apply vL; (case h => with_reducible assumption))); (case hk => exact kpA); (case he => omega); (case' g => intro hr_ hc_)) | (apply drawS_auto mixed tt_ok; (· kernel_rfl)) | apply zZ | apply yA | apply yB | ((first | apply zA | apply zC | apply zE | apply zG); (· with_reducible assumption)) | ((first | apply zB | apply zD | apply zF | apply zH); (· with_reducible assumption)) | apply zM | apply zN | apply zO | apply zP | apply zQ | apply zR | apply zS | apply zT | apply zU | (apply zV; (· omega)) | (apply zW; (· omega)) | (apply zX; (· (first | omega | (dsimp only; omega)))) | (apply zY; (try (apply zY; apply zX; (· omega))); apply zX; (· omega); apply zX; (· (first | omega | (dsimp only; omega)))) | ((first | apply yJ | apply yK | apply yL | apply yM | apply yN | apply yO); (· exact hgA); (· exact hsA)) | (apply yNP; (· exact hgA); (· exact hsA)) | ((first | apply zA | apply zC | apply zE | apply zG); (· omega)) | ((first | apply zB | apply zD | apply zF | apply zH); (· omega)) | ((first | apply zI | apply zK); (· with_reducible assumption)) | ((first | apply zJ | apply zL); (· with_reducible assumption)) | ((first | apply xA | apply xC | apply xE | apply xG); (· first | assumption | rfl)) | ((first | apply xB | apply xD | apply xF | apply xH); (· first | assumption | kernel_rfl)) | fail)
      conv => whnf
      exact bad_ _ 7 hE (by omega) leA
  · have hE : decE e C s = 7 := by unfold decE; rw [if_neg (fun hh => he hh.1)]
    refine callS_walk tt_ok Try.func39 rfl (by kernel_rfl) ?_
    conv => whnf
    repeat' ((conv => whnf); first | (apply known_f; (· with_reducible assumption)) | ((first | (apply vB; (case h => with_reducible assumption)) | (apply vA; (case h => with_reducible assumption)) | (apply vC; (case h => with_reducible assumption)) | (apply vE; (case h => with_reducible assumption))); (case hk => exact kpA); (case he => omega)) | ((first | (apply vI; (case h => with_reducible assumption)) | (apply vG; (case h => with_reducible assumption)) | (apply vK; (case h => with_reducible assumption))); (case hk => exact kpA); (case he => omega); (case hp => omega); (case' g => intro hr_ hc_)) | ((first | (apply vJ; (case h => with_reducible assumption)) | (apply vH; (case h => with_reducible assumption)) | (apply vL; (case h => with_reducible assumption))); (case hk => exact kpA); (case he => omega); (case' g => intro hr_ hc_)) | (apply drawS_auto mixed tt_ok; (· kernel_rfl)) | apply zZ | apply yA | apply yB | ((first | apply zA | apply zC | apply zE | apply zG); (· with_reducible assumption)) | ((first | apply zB | apply zD | apply zF | apply zH); (· with_reducible assumption)) | apply zM | apply zN | apply zO | apply zP | apply zQ | apply zR | apply zS | apply zT | apply zU | (apply zV; (· omega)) | (apply zW; (· omega)) | (apply zX; (· (first | omega | (dsimp only; omega)))) | (apply zY; (try (apply zY; apply zX; (· omega))); apply zX; (· omega); apply zX; (· (first | omega | (dsimp only; omega)))) | ((first | apply yJ | apply yK | apply yL | apply yM | apply yN | apply yO); (· exact hgA); (· exact hsA)) | (apply yNP; (· exact hgA); (· exact hsA)) | ((first | apply zA | apply zC | apply zE | apply zG); (· omega)) | ((first | apply zB | apply zD | apply zF | apply zH); (· omega)) | ((first | apply zI | apply zK); (· with_reducible assumption)) | ((first | apply zJ | apply zL); (· with_reducible assumption)) | ((first | apply xA | apply xC | apply xE | apply xG); (· first | assumption | rfl)) | ((first | apply xB | apply xD | apply xF | apply xH); (· first | assumption | kernel_rfl)) | fail)
    conv => whnf
    exact bad_ _ 7 hE (by omega) leA
end Go.Abs
