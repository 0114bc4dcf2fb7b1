/- Events with frames: both Unpacks. No conditions beyond those stated. -/
import Derived.Test.YtpcnnioicfljfaaK10b
set_option linter.all false
set_option maxHeartbeats 4000000
set_option maxRecDepth 20000
namespace Go.Abs
open Go Go.Proofs

def nAt (s : ByteArray) (p : Nat) : Int × Int := numF (fun i => sAt s (p + i)) (s.size - p) 0 0
def unpR (s : ByteArray) : Nat → Nat → Int → List FE → DR
  | 0, _, _, out => ⟨out, 0, 0⟩
  | k + 1, p, fr, out =>
    if p < s.size then
      if (nAt s p).2 < 0 then ⟨out, s.size, 12⟩
      else if (nAt s p).2 = 0 ∨ 1000000000 < fr + (nAt s p).1 then ⟨out, p, 12⟩
      else match runM s (s.size - (p + (nAt s p).2.toNat)) (p + (nAt s p).2.toNat) ⟨0, 0, false, []⟩ with
        | .bad q => ⟨out, q, 12⟩
        | .ok e q => if out.length = 2000 then ⟨[], 0, 4⟩ else unpR s k q (fr + (nAt s p).1) (out ++ [(fr + (nAt s p).1, e)])
    else ⟨out, 0, 0⟩
def unpC (s : ByteArray) (k : Nat) (fr : Int) (out : List FE) : SR → DR
  | .bad q => ⟨out, q, 12⟩
  | .ok e q => if out.length = 2000 then ⟨[], 0, 4⟩ else unpR s k q fr (out ++ [(fr, e)])
theorem unp_next {s : ByteArray} {k p : Nat} {fr : Int} {out : List FE} (hp : p < s.size) (h0 : 0 < (nAt s p).2) (h1 : fr + (nAt s p).1 ≤ 1000000000) :
    unpR s (k + 1) p fr out = unpC s k (fr + (nAt s p).1) out (runM s (s.size - (p + (nAt s p).2.toNat)) (p + (nAt s p).2.toNat) ⟨0, 0, false, []⟩) := by
  rw [unpR, if_pos hp, if_neg (by omega), if_neg (by omega)]
  cases runM s (s.size - (p + (nAt s p).2.toNat)) (p + (nAt s p).2.toNat) ⟨0, 0, false, []⟩ <;> rfl
def unpS (s : ByteArray) : DR := if 65536 < s.size then ⟨[], 0, 3⟩ else unpR s s.size 0 0 []
theorem nAt_bd {s : ByteArray} {p : Nat} (hp : p ≤ s.size) : 0 ≤ (nAt s p).1 ∧ (nAt s p).1 < 34359738368 ∧ -1 ≤ (nAt s p).2 ∧ p + (nAt s p).2 ≤ s.size := by
  have := numF_bd (fun i => sAt s (p + i)) (s.size - p) 0 0 (by simp)
  unfold nAt
  omega
theorem runM_bd {s : ByteArray} {e : Ev} {q : Nat} : ∀ (k p : Nat) (S : MS), p + k = s.size → runM s k p S = .ok e q → p < q ∧ q ≤ s.size
  | 0, p, S, hk, h => by unfold runM at h; cases h
  | k + 1, p, S, hk, h => by
    unfold runM at h
    split at h
    · cases h
    · have := runM_bd k (p + 1) _ (by omega) h
      omega
    · split at h
      · cases h
      · cases h
        omega
theorem ext_sAt {s : ByteArray} {p i : Nat} (hp : p ≤ s.size) : sAt (s.extract p s.size) i = sAt s (p + i) := by
  unfold sAt
  rw [ByteArray.data_extract]
  have : (s.data.extract p s.size).toList.getD i 0 = s.data.toList.getD (p + i) 0 := by
    rw [Array.toList_extract, List.getD_eq_getElem?_getD, List.getD_eq_getElem?_getD]
    have hl : s.data.toList.length = s.size := rfl
    simp only [List.extract, List.getElem?_take, List.getElem?_drop]
    split
    · rfl
    · rw [List.getElem?_eq_none (by omega)]
  rw [this]
theorem ext_size {s : ByteArray} {p : Nat} : (s.extract p s.size).size = s.size - p := by rw [ByteArray.size_extract]; omega
theorem nAt_ext {s : ByteArray} {p : Nat} (hp : p ≤ s.size) : numF (sAt (s.extract p s.size)) (s.extract p s.size).size 0 0 = nAt s p := by
  unfold nAt
  rw [ext_size, show sAt (s.extract p s.size) = fun i => sAt s (p + i) from funext fun i => ext_sAt hp]
structure RUt where
  p : Nat
  fr : Int
  k : Nat
  H : AHeap
  v : Value
  out : List FE
structure RUInv (H : AHeap) (s : ByteArray) (R : DR) (r : RUt) : Prop where
  le : r.p ≤ s.size
  hle : H.le r.H
  o : OFE r.H H.size r.v r.out
  n : r.out.length ≤ 2000
  f : 0 ≤ r.fr ∧ r.fr ≤ 1000000000
  k : s.size - r.p ≤ r.k
  e : unpR s r.k r.p r.fr r.out = R
section
variable {H : AHeap} {K : CK}
theorem single_v {s : ByteArray} {p : Nat} {R : SR} (hR : runM s (s.size - p) p ⟨0, 0, false, []⟩ = R) (hs : s.size ≤ 65536) (hp : p ≤ s.size) (h : SRK H K R) : callS P (fnV 27) [.string s, iv p] H K := single_c hs hp (by rw [hR]; exact h)
theorem numbered_v {s : ByteArray} {p : Nat} {n q : Int} {ok : Bool} (hs : s.size ≤ 65536) (hp : p ≤ s.size)
    (hR : (nAt s p).2 = -1 ∧ n = 0 ∧ q = (s.size : Int) ∧ ok = false ∨ (nAt s p).2 = 0 ∧ n = 0 ∧ q = (p : Int) ∧ ok = false ∨ 0 < (nAt s p).2 ∧ n = (nAt s p).1 ∧ q = p + (nAt s p).2 ∧ ok = true)
    (h : K (.returned (.tuple #[iv n, iv q, .bool ok])) H) : callS P (fnV 26) [.string s, iv p] H K := by
  refine numbered_c hs hp fun n' q' ok' hh => ?_
  have : n' = n ∧ q' = q ∧ ok' = ok := by
    unfold nAt at hR
    rcases hh with ⟨a1, a2, a3, a4⟩ | ⟨a1, a2, a3, a4⟩ | ⟨a1, a2, a3, a4⟩ <;> rcases hR with ⟨b1, b2, b3, b4⟩ | ⟨b1, b2, b3, b4⟩ | ⟨b1, b2, b3, b4⟩ <;>
      first | (exfalso; omega) | (subst a2 a3 a4 b2 b3 b4; exact ⟨rfl, rfl, rfl⟩)
  obtain ⟨rfl, rfl, rfl⟩ := this
  exact h
theorem refUnpack_c {s : ByteArray} (h : ∀ H' v, H.le H' → OFE H' H.size v (unpS s).out → K (.returned (.tuple #[v, iv (unpS s).at_, iv (unpS s).e])) H') : callS P (fnV 18) [.string s] H K := by
  by_cases hl : 65536 < s.size
  · have e : unpS s = ⟨[], 0, 3⟩ := by unfold unpS; rw [if_pos hl]
    rw [e] at h
    refine callS_walk tt_ok Try.func18 rfl (by kernel_rfl) ?_
    conv => whnf
    repeat' ((conv => whnf); first | ((first | (apply vB; (case h => with_reducible assumption)) | (apply vA; (case h => with_reducible assumption)) | (apply vC; (case h => with_reducible assumption))); (case hk => exact kpA); (case he => omega)) | ((first | (apply vI; (case h => with_reducible assumption)) | (apply vG; (case h => with_reducible assumption)) | (apply vK; (case h => with_reducible assumption))); (case hk => exact kpA); (case he => omega); (case hp => omega); (case' g => intro hr_ hc_)) | ((first | (apply vJ; (case h => with_reducible assumption)) | (apply vH; (case h => with_reducible assumption)) | (apply vL; (case h => with_reducible assumption))); (case hk => exact kpA); (case he => omega); (case' g => intro hr_ hc_)) | apply yA | apply yB | ((first | apply zA | apply zC | apply zE | apply zG); (· with_reducible assumption)) | ((first | apply zB | apply zD | apply zF | apply zH); (· with_reducible assumption)) | apply zM | apply zN | apply zO | apply zP | apply zQ | apply zR | apply zS | apply zT | apply zU | (apply zV; (· omega)) | (apply zW; (· omega)) | (apply zX; (· (first | omega | (dsimp only; omega)))) | (apply zY; (try (apply zY; apply zX; (· omega))); apply zX; (· omega); apply zX; (· (first | omega | (dsimp only; omega)))) | ((first | apply yJ | apply yK | apply yL | apply yM | apply yN | apply yO); (· exact hgA); (· exact hsA)) | (apply yNP; (· exact hgA); (· exact hsA)) | ((first | apply zA | apply zC | apply zE | apply zG); (· omega)) | ((first | apply zB | apply zD | apply zF | apply zH); (· omega)) | ((first | apply zI | apply zK); (· with_reducible assumption)) | ((first | apply zJ | apply zL); (· with_reducible assumption)) | fail)
    conv => whnf
    exact h _ _ leA (.inl ⟨rfl, rfl⟩)
  · have e : unpS s = unpR s s.size 0 0 [] := by unfold unpS; rw [if_neg hl]
    have hs : s.size ≤ 65536 := by omega
    rw [e] at h
    generalize hR : unpR s s.size 0 0 [] = R at h
    refine callS_walk tt_ok Try.func18 rfl (by kernel_rfl) ?_
    conv => whnf
    repeat' ((conv => whnf); first | ((first | (apply vB; (case h => with_reducible assumption)) | (apply vA; (case h => with_reducible assumption)) | (apply vC; (case h => with_reducible assumption))); (case hk => exact kpA); (case he => omega)) | ((first | (apply vI; (case h => with_reducible assumption)) | (apply vG; (case h => with_reducible assumption)) | (apply vK; (case h => with_reducible assumption))); (case hk => exact kpA); (case he => omega); (case hp => omega); (case' g => intro hr_ hc_)) | ((first | (apply vJ; (case h => with_reducible assumption)) | (apply vH; (case h => with_reducible assumption)) | (apply vL; (case h => with_reducible assumption))); (case hk => exact kpA); (case he => omega); (case' g => intro hr_ hc_)) | apply yA | apply yB | ((first | apply zA | apply zC | apply zE | apply zG); (· with_reducible assumption)) | ((first | apply zB | apply zD | apply zF | apply zH); (· with_reducible assumption)) | apply zM | apply zN | apply zO | apply zP | apply zQ | apply zR | apply zS | apply zT | apply zU | (apply zV; (· omega)) | (apply zW; (· omega)) | (apply zX; (· (first | omega | (dsimp only; omega)))) | (apply zY; (try (apply zY; apply zX; (· omega))); apply zX; (· omega); apply zX; (· (first | omega | (dsimp only; omega)))) | ((first | apply yJ | apply yK | apply yL | apply yM | apply yN | apply yO); (· exact hgA); (· exact hsA)) | (apply yNP; (· exact hgA); (· exact hsA)) | ((first | apply zA | apply zC | apply zE | apply zG); (· omega)) | ((first | apply zB | apply zD | apply zF | apply zH); (· omega)) | ((first | apply zI | apply zK); (· with_reducible assumption)) | ((first | apply zJ | apply zL); (· with_reducible assumption)) | fail)
    conv => whnf
    apply loopS_mask tt_ok (fun (r : RUt) => [.k, .w, .w, .w, .w, .p (r.v), .p (iv r.fr), .p (iv r.p), .w, .w, .w, .w, .w, .w, .w, .w, .w, .w, .w, .w, .w, .w, .w, .w, .w, .w, .w, .w, .w, .w, .w, .w, .w, .w, .w, .w, .w, .w, .w, .w, .w, .w, .w, .w, .w, .w, .w, .w, .w, .w, .w, .w, .w, .w, .w, .w, .w, .w, .w, .w, .w, .w, .w, .w]) (fun (r : RUt) => r.H) (fun (r : RUt) => RUInv H s R r) (fun (r : RUt) => r.k) (⟨0, 0, s.size, _, .slice none 0 0, []⟩)
    case hst =>
      conv => whnf
      refine weakH_of (HW.refl _) ?_
      repeat' (first | exact WT.nil | refine WT.same ?_ | refine WT.drop ?_ | refine WT.int (by omega) ?_ | refine WT.eq (by assumption) ?_ | refine WT.bl (by first | assumption | (symm; assumption)) ?_ | refine WT.vv (by assumption) ?_)
    case h0 => exact ⟨Nat.zero_le _, by dsimp only; exact leA, .inl ⟨rfl, rfl⟩, by simp, by simp, by simp, hR⟩
    intro r hr
    obtain ⟨p, fr, k, HH, v, out⟩ := r
    obtain ⟨hp, hle, hov, hn, hf, hk, he⟩ := hr
    dsimp only at hp hle hov hn hf hk he ⊢
    have hzH := hle.size
    by_cases hin : p < s.size
    · obtain ⟨k, rfl⟩ : ∃ k', k = k' + 1 := ⟨k - 1, by omega⟩
      obtain ⟨hn1, hn2, hn3, hn4⟩ := nAt_bd (p := p) hp
      by_cases h1 : (nAt s p).2 < 0
      · have he2 : R = ⟨out, s.size, 12⟩ := by rw [← he, unpR, if_pos hin, if_pos h1]
        subst he2
        repeat' ((conv => whnf); first | refine numbered_v hs hp (.inl ⟨by omega, rfl, rfl, rfl⟩) ?_ | ((first | (apply vB; (case h => with_reducible assumption)) | (apply vA; (case h => with_reducible assumption)) | (apply vC; (case h => with_reducible assumption))); (case hk => exact kpA); (case he => omega)) | ((first | (apply vI; (case h => with_reducible assumption)) | (apply vG; (case h => with_reducible assumption)) | (apply vK; (case h => with_reducible assumption))); (case hk => exact kpA); (case he => omega); (case hp => omega); (case' g => intro hr_ hc_)) | ((first | (apply vJ; (case h => with_reducible assumption)) | (apply vH; (case h => with_reducible assumption)) | (apply vL; (case h => with_reducible assumption))); (case hk => exact kpA); (case he => omega); (case' g => intro hr_ hc_)) | apply yA | apply yB | ((first | apply zA | apply zC | apply zE | apply zG); (· with_reducible assumption)) | ((first | apply zB | apply zD | apply zF | apply zH); (· with_reducible assumption)) | apply zM | apply zN | apply zO | apply zP | apply zQ | apply zR | apply zS | apply zT | apply zU | (apply zV; (· omega)) | (apply zW; (· omega)) | (apply zX; (· (first | omega | (dsimp only; omega)))) | (apply zY; (try (apply zY; apply zX; (· omega))); apply zX; (· omega); apply zX; (· (first | omega | (dsimp only; omega)))) | ((first | apply yJ | apply yK | apply yL | apply yM | apply yN | apply yO); (· exact hgA); (· exact hsA)) | (apply yNP; (· exact hgA); (· exact hsA)) | ((first | apply zA | apply zC | apply zE | apply zG); (· omega)) | ((first | apply zB | apply zD | apply zF | apply zH); (· omega)) | ((first | apply zI | apply zK); (· with_reducible assumption)) | ((first | apply zJ | apply zL); (· with_reducible assumption)) | fail)
        conv => whnf
        exact h _ _ hle hov
      · by_cases h0 : (nAt s p).2 = 0
        · have he2 : R = ⟨out, p, 12⟩ := by rw [← he, unpR, if_pos hin, if_neg h1, if_pos (.inl h0)]
          subst he2
          repeat' ((conv => whnf); first | refine numbered_v hs hp (.inr (.inl ⟨by omega, rfl, rfl, rfl⟩)) ?_ | ((first | (apply vB; (case h => with_reducible assumption)) | (apply vA; (case h => with_reducible assumption)) | (apply vC; (case h => with_reducible assumption))); (case hk => exact kpA); (case he => omega)) | ((first | (apply vI; (case h => with_reducible assumption)) | (apply vG; (case h => with_reducible assumption)) | (apply vK; (case h => with_reducible assumption))); (case hk => exact kpA); (case he => omega); (case hp => omega); (case' g => intro hr_ hc_)) | ((first | (apply vJ; (case h => with_reducible assumption)) | (apply vH; (case h => with_reducible assumption)) | (apply vL; (case h => with_reducible assumption))); (case hk => exact kpA); (case he => omega); (case' g => intro hr_ hc_)) | apply yA | apply yB | ((first | apply zA | apply zC | apply zE | apply zG); (· with_reducible assumption)) | ((first | apply zB | apply zD | apply zF | apply zH); (· with_reducible assumption)) | apply zM | apply zN | apply zO | apply zP | apply zQ | apply zR | apply zS | apply zT | apply zU | (apply zV; (· omega)) | (apply zW; (· omega)) | (apply zX; (· (first | omega | (dsimp only; omega)))) | (apply zY; (try (apply zY; apply zX; (· omega))); apply zX; (· omega); apply zX; (· (first | omega | (dsimp only; omega)))) | ((first | apply yJ | apply yK | apply yL | apply yM | apply yN | apply yO); (· exact hgA); (· exact hsA)) | (apply yNP; (· exact hgA); (· exact hsA)) | ((first | apply zA | apply zC | apply zE | apply zG); (· omega)) | ((first | apply zB | apply zD | apply zF | apply zH); (· omega)) | ((first | apply zI | apply zK); (· with_reducible assumption)) | ((first | apply zJ | apply zL); (· with_reducible assumption)) | fail)
          conv => whnf
          exact h _ _ hle hov
        · by_cases hm : 1000000000 < fr + (nAt s p).1
          · have he2 : R = ⟨out, p, 12⟩ := by rw [← he, unpR, if_pos hin, if_neg h1, if_pos (.inr hm)]
            subst he2
            repeat' ((conv => whnf); first | refine numbered_v hs hp (.inr (.inr ⟨by omega, rfl, rfl, rfl⟩)) ?_ | ((first | (apply vB; (case h => with_reducible assumption)) | (apply vA; (case h => with_reducible assumption)) | (apply vC; (case h => with_reducible assumption))); (case hk => exact kpA); (case he => omega)) | ((first | (apply vI; (case h => with_reducible assumption)) | (apply vG; (case h => with_reducible assumption)) | (apply vK; (case h => with_reducible assumption))); (case hk => exact kpA); (case he => omega); (case hp => omega); (case' g => intro hr_ hc_)) | ((first | (apply vJ; (case h => with_reducible assumption)) | (apply vH; (case h => with_reducible assumption)) | (apply vL; (case h => with_reducible assumption))); (case hk => exact kpA); (case he => omega); (case' g => intro hr_ hc_)) | apply yA | apply yB | ((first | apply zA | apply zC | apply zE | apply zG); (· with_reducible assumption)) | ((first | apply zB | apply zD | apply zF | apply zH); (· with_reducible assumption)) | apply zM | apply zN | apply zO | apply zP | apply zQ | apply zR | apply zS | apply zT | apply zU | (apply zV; (· omega)) | (apply zW; (· omega)) | (apply zX; (· (first | omega | (dsimp only; omega)))) | (apply zY; (try (apply zY; apply zX; (· omega))); apply zX; (· omega); apply zX; (· (first | omega | (dsimp only; omega)))) | ((first | apply yJ | apply yK | apply yL | apply yM | apply yN | apply yO); (· exact hgA); (· exact hsA)) | (apply yNP; (· exact hgA); (· exact hsA)) | ((first | apply zA | apply zC | apply zE | apply zG); (· omega)) | ((first | apply zB | apply zD | apply zF | apply zH); (· omega)) | ((first | apply zI | apply zK); (· with_reducible assumption)) | ((first | apply zJ | apply zL); (· with_reducible assumption)) | fail)
            conv => whnf
            exact h _ _ hle hov
          · rw [unp_next hin (by omega) (by omega)] at he
            generalize hqd : p + (nAt s p).2.toNat = q at he
            have hq : (q : Int) = p + (nAt s p).2 := by omega
            have hqs : q ≤ s.size := by omega
            have hpq : p < q := by omega
            generalize hsr : runM s (s.size - q) q ⟨0, 0, false, []⟩ = SR at he
            cases SR with
            | bad b =>
              have he2 : R = ⟨out, b, 12⟩ := he.symm
              subst he2
              repeat' ((conv => whnf); first | refine numbered_v (q := (q : Int)) hs hp (.inr (.inr ⟨by omega, rfl, hq, rfl⟩)) ?_ | refine single_v hsr hs hqs (fun H2 hle2 => ?_); (have hz2 := hle2.size); (have hle3 : H.le H2 := hle.trans hle2) | ((first | (apply vB; (case h => with_reducible assumption)) | (apply vA; (case h => with_reducible assumption)) | (apply vC; (case h => with_reducible assumption))); (case hk => exact kpA); (case he => omega)) | ((first | (apply vI; (case h => with_reducible assumption)) | (apply vG; (case h => with_reducible assumption)) | (apply vK; (case h => with_reducible assumption))); (case hk => exact kpA); (case he => omega); (case hp => omega); (case' g => intro hr_ hc_)) | ((first | (apply vJ; (case h => with_reducible assumption)) | (apply vH; (case h => with_reducible assumption)) | (apply vL; (case h => with_reducible assumption))); (case hk => exact kpA); (case he => omega); (case' g => intro hr_ hc_)) | apply yA | apply yB | ((first | apply zA | apply zC | apply zE | apply zG); (· with_reducible assumption)) | ((first | apply zB | apply zD | apply zF | apply zH); (· with_reducible assumption)) | apply zM | apply zN | apply zO | apply zP | apply zQ | apply zR | apply zS | apply zT | apply zU | (apply zV; (· omega)) | (apply zW; (· omega)) | (apply zX; (· (first | omega | (dsimp only; omega)))) | (apply zY; (try (apply zY; apply zX; (· omega))); apply zX; (· omega); apply zX; (· (first | omega | (dsimp only; omega)))) | ((first | apply yJ | apply yK | apply yL | apply yM | apply yN | apply yO); (· exact hgA); (· exact hsA)) | (apply yNP; (· exact hgA); (· exact hsA)) | ((first | apply zA | apply zC | apply zE | apply zG); (· omega)) | ((first | apply zB | apply zD | apply zF | apply zH); (· omega)) | ((first | apply zI | apply zK); (· with_reducible assumption)) | ((first | apply zJ | apply zL); (· with_reducible assumption)) | fail)
              conv => whnf
              refine h _ _ ?_ ?_
              · exact leA
              · exact hov.keep (fun j h1 h2 es g => Eq.trans hgA (hle2.get j h1)) hoA
            | ok ev q2 =>
              obtain ⟨hb1, hb2⟩ := runM_bd _ _ _ (by omega) hsr
              unfold unpC at he
              dsimp only at he
              by_cases hn2k : out.length = 2000
              · rw [if_pos hn2k] at he
                subst he
                rcases hov with ⟨rfl, hoe⟩ | ⟨ob, rfl, go, ho1, ho2⟩
                · rw [hoe] at hn2k; simp at hn2k
                · skip
                  repeat' ((conv => whnf); first | refine numbered_v (q := (q : Int)) hs hp (.inr (.inr ⟨by omega, rfl, hq, rfl⟩)) ?_ | refine single_v hsr hs hqs (fun H2 hle2 => ?_); (have hz2 := hle2.size); (have hle3 : H.le H2 := hle.trans hle2); (have gob2 : H2.get ob = some (.cells (flatFE out) true 6) := (hle2.get ob ho2).trans go) | (refine own_fe (es := out) ?_ ?_ ?_; (· exact hgA); (· simp)) | (refine lds_fe (es := out) ?_ rfl rfl ?_; (· exact hgA)) | ((first | (apply vB; (case h => with_reducible assumption)) | (apply vA; (case h => with_reducible assumption)) | (apply vC; (case h => with_reducible assumption))); (case hk => exact kpA); (case he => omega)) | ((first | (apply vI; (case h => with_reducible assumption)) | (apply vG; (case h => with_reducible assumption)) | (apply vK; (case h => with_reducible assumption))); (case hk => exact kpA); (case he => omega); (case hp => omega); (case' g => intro hr_ hc_)) | ((first | (apply vJ; (case h => with_reducible assumption)) | (apply vH; (case h => with_reducible assumption)) | (apply vL; (case h => with_reducible assumption))); (case hk => exact kpA); (case he => omega); (case' g => intro hr_ hc_)) | apply yA | apply yB | ((first | apply zA | apply zC | apply zE | apply zG); (· with_reducible assumption)) | ((first | apply zB | apply zD | apply zF | apply zH); (· with_reducible assumption)) | apply zM | apply zN | apply zO | apply zP | apply zQ | apply zR | apply zS | apply zT | apply zU | (apply zV; (· omega)) | (apply zW; (· omega)) | (apply zX; (· (first | omega | (dsimp only; omega)))) | (apply zY; (try (apply zY; apply zX; (· omega))); apply zX; (· omega); apply zX; (· (first | omega | (dsimp only; omega)))) | ((first | apply yJ | apply yK | apply yL | apply yM | apply yN | apply yO); (· exact hgA); (· exact hsA)) | (apply yNP; (· exact hgA); (· exact hsA)) | ((first | apply zA | apply zC | apply zE | apply zG); (· omega)) | ((first | apply zB | apply zD | apply zF | apply zH); (· omega)) | ((first | apply zI | apply zK); (· with_reducible assumption)) | ((first | apply zJ | apply zL); (· with_reducible assumption)) | fail)
                  conv => whnf
                  exact h _ _ leA (.inl ⟨rfl, rfl⟩)
              · rw [if_neg hn2k] at he
                rcases hov with ⟨rfl, hoe⟩ | ⟨ob, rfl, go, ho1, ho2⟩
                · subst hoe
                  repeat' ((conv => whnf); first | refine numbered_v (q := (q : Int)) hs hp (.inr (.inr ⟨by omega, rfl, hq, rfl⟩)) ?_ | refine single_v hsr hs hqs (fun H2 hle2 => ?_); (have hz2 := hle2.size); (have hle3 : H.le H2 := hle.trans hle2) | ((first | (apply vB; (case h => with_reducible assumption)) | (apply vA; (case h => with_reducible assumption)) | (apply vC; (case h => with_reducible assumption))); (case hk => exact kpA); (case he => omega)) | ((first | (apply vI; (case h => with_reducible assumption)) | (apply vG; (case h => with_reducible assumption)) | (apply vK; (case h => with_reducible assumption))); (case hk => exact kpA); (case he => omega); (case hp => omega); (case' g => intro hr_ hc_)) | ((first | (apply vJ; (case h => with_reducible assumption)) | (apply vH; (case h => with_reducible assumption)) | (apply vL; (case h => with_reducible assumption))); (case hk => exact kpA); (case he => omega); (case' g => intro hr_ hc_)) | apply yA | apply yB | ((first | apply zA | apply zC | apply zE | apply zG); (· with_reducible assumption)) | ((first | apply zB | apply zD | apply zF | apply zH); (· with_reducible assumption)) | apply zM | apply zN | apply zO | apply zP | apply zQ | apply zR | apply zS | apply zT | apply zU | (apply zV; (· omega)) | (apply zW; (· omega)) | (apply zX; (· (first | omega | (dsimp only; omega)))) | (apply zY; (try (apply zY; apply zX; (· omega))); apply zX; (· omega); apply zX; (· (first | omega | (dsimp only; omega)))) | ((first | apply yJ | apply yK | apply yL | apply yM | apply yN | apply yO); (· exact hgA); (· exact hsA)) | (apply yNP; (· exact hgA); (· exact hsA)) | ((first | apply zA | apply zC | apply zE | apply zG); (· omega)) | ((first | apply zB | apply zD | apply zF | apply zH); (· omega)) | ((first | apply zI | apply zK); (· with_reducible assumption)) | ((first | apply zJ | apply zL); (· with_reducible assumption)) | fail)
                  conv => whnf
                  apply Exists.intro (⟨q2, fr + (nAt s p).1, k, _, _, [] ++ [(fr + (nAt s p).1, ev)]⟩ : RUt)
                  refine ⟨?inv, ?mu, ?wk⟩
                  case wk =>
                    conv => whnf
                    refine weakH_of (HW.refl _) ?_
                    repeat' (first | exact WT.nil | refine WT.same ?_ | refine WT.drop ?_ | refine WT.int (by omega) ?_ | refine WT.eq (by assumption) ?_ | refine WT.bl (by first | assumption | (symm; assumption)) ?_ | refine WT.vv (by assumption) ?_)
                  case mu => first | omega | (dsimp only; omega)
                  case inv => exact ⟨hb2, by dsimp only; exact leA, by dsimp only; exact .inr ⟨_, rfl, by rw [List.nil_append, flatFE_one]; exact hgA, hoA, hoA⟩, by simp, by dsimp only; omega, by dsimp only; omega, he⟩
                · skip
                  repeat' ((conv => whnf); first | refine numbered_v (q := (q : Int)) hs hp (.inr (.inr ⟨by omega, rfl, hq, rfl⟩)) ?_ | refine single_v hsr hs hqs (fun H2 hle2 => ?_); (have hz2 := hle2.size); (have hle3 : H.le H2 := hle.trans hle2); (have gob2 : H2.get ob = some (.cells (flatFE out) true 6) := (hle2.get ob ho2).trans go) | (refine own_fe (es := out) ?_ ?_ ?_; (· exact hgA); (· simp)) | (refine lds_fe (es := out) ?_ rfl rfl ?_; (· exact hgA)) | ((first | (apply vB; (case h => with_reducible assumption)) | (apply vA; (case h => with_reducible assumption)) | (apply vC; (case h => with_reducible assumption))); (case hk => exact kpA); (case he => omega)) | ((first | (apply vI; (case h => with_reducible assumption)) | (apply vG; (case h => with_reducible assumption)) | (apply vK; (case h => with_reducible assumption))); (case hk => exact kpA); (case he => omega); (case hp => omega); (case' g => intro hr_ hc_)) | ((first | (apply vJ; (case h => with_reducible assumption)) | (apply vH; (case h => with_reducible assumption)) | (apply vL; (case h => with_reducible assumption))); (case hk => exact kpA); (case he => omega); (case' g => intro hr_ hc_)) | apply yA | apply yB | ((first | apply zA | apply zC | apply zE | apply zG); (· with_reducible assumption)) | ((first | apply zB | apply zD | apply zF | apply zH); (· with_reducible assumption)) | apply zM | apply zN | apply zO | apply zP | apply zQ | apply zR | apply zS | apply zT | apply zU | (apply zV; (· omega)) | (apply zW; (· omega)) | (apply zX; (· (first | omega | (dsimp only; omega)))) | (apply zY; (try (apply zY; apply zX; (· omega))); apply zX; (· omega); apply zX; (· (first | omega | (dsimp only; omega)))) | ((first | apply yJ | apply yK | apply yL | apply yM | apply yN | apply yO); (· exact hgA); (· exact hsA)) | (apply yNP; (· exact hgA); (· exact hsA)) | ((first | apply zA | apply zC | apply zE | apply zG); (· omega)) | ((first | apply zB | apply zD | apply zF | apply zH); (· omega)) | ((first | apply zI | apply zK); (· with_reducible assumption)) | ((first | apply zJ | apply zL); (· with_reducible assumption)) | fail)
                  conv => whnf
                  apply Exists.intro (⟨q2, fr + (nAt s p).1, k, _, _, out ++ [(fr + (nAt s p).1, ev)]⟩ : RUt)
                  refine ⟨?inv, ?mu, ?wk⟩
                  case wk =>
                    conv => whnf
                    refine weakH_of (HW.refl _) ?_
                    repeat' (first | exact WT.nil | refine WT.same ?_ | refine WT.drop ?_ | refine WT.int (by omega) ?_ | refine WT.eq (by assumption) ?_ | refine WT.bl (by first | assumption | (symm; assumption)) ?_ | refine WT.vv (by assumption) ?_)
                  case mu => first | omega | (dsimp only; omega)
                  case inv => exact ⟨hb2, by dsimp only; exact leA, by dsimp only; exact .inr ⟨_, by rw [List.length_append]; rfl, by rw [flatFE_app, flatFE_one]; exact hgA, hoA, hoA⟩, by dsimp only; rw [List.length_append]; simp; omega, by dsimp only; omega, by dsimp only; omega, he⟩
    · have hz : p = s.size := by omega
      have he2 : R = ⟨out, 0, 0⟩ := by
        rw [← he]
        cases k with
        | zero => rfl
        | succ k => rw [unpR, if_neg hin]
      subst he2
      repeat' ((conv => whnf); first | ((first | (apply vB; (case h => with_reducible assumption)) | (apply vA; (case h => with_reducible assumption)) | (apply vC; (case h => with_reducible assumption))); (case hk => exact kpA); (case he => omega)) | ((first | (apply vI; (case h => with_reducible assumption)) | (apply vG; (case h => with_reducible assumption)) | (apply vK; (case h => with_reducible assumption))); (case hk => exact kpA); (case he => omega); (case hp => omega); (case' g => intro hr_ hc_)) | ((first | (apply vJ; (case h => with_reducible assumption)) | (apply vH; (case h => with_reducible assumption)) | (apply vL; (case h => with_reducible assumption))); (case hk => exact kpA); (case he => omega); (case' g => intro hr_ hc_)) | apply yA | apply yB | ((first | apply zA | apply zC | apply zE | apply zG); (· with_reducible assumption)) | ((first | apply zB | apply zD | apply zF | apply zH); (· with_reducible assumption)) | apply zM | apply zN | apply zO | apply zP | apply zQ | apply zR | apply zS | apply zT | apply zU | (apply zV; (· omega)) | (apply zW; (· omega)) | (apply zX; (· (first | omega | (dsimp only; omega)))) | (apply zY; (try (apply zY; apply zX; (· omega))); apply zX; (· omega); apply zX; (· (first | omega | (dsimp only; omega)))) | ((first | apply yJ | apply yK | apply yL | apply yM | apply yN | apply yO); (· exact hgA); (· exact hsA)) | (apply yNP; (· exact hgA); (· exact hsA)) | ((first | apply zA | apply zC | apply zE | apply zG); (· omega)) | ((first | apply zB | apply zD | apply zF | apply zH); (· omega)) | ((first | apply zI | apply zK); (· with_reducible assumption)) | ((first | apply zJ | apply zL); (· with_reducible assumption)) | fail)
      conv => whnf
      exact h _ _ hle hov
end
end Go.Abs
