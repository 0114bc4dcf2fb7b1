/- Laws: a block that is cut in two. -/
import Derived.Test.YthjmijjppaebgaaN04
import Derived.Test.YthjmijjppaebgaaO04
import Derived.Test.YthjmijjppaebgaaV04
set_option linter.all false
set_option maxHeartbeats 1000000
set_option maxRecDepth 20000
namespace Go.Abs
open Go Go.Proofs

theorem flat_split (g : Nat → List Int) (a b : Nat) : ((List.range (a + b)).map g).flatten = ((List.range a).map g).flatten ++ ((List.range b).map fun j => g (a + j)).flatten := by
  rw [List.range_add, List.map_append, List.flatten_append, List.map_map]
  rfl
theorem at2_cut {f t c k : Nat} {m : List (List Int)} (hk : k < t - f) : at2 (cutM f t m) c k = at2 m c (f + k) := by
  unfold at2 cutM
  rw [List.getD_eq_getElem?_getD (l := List.map _ _), List.getElem?_map, List.getD_eq_getElem?_getD (l := m)]
  cases m[c]? with
  | none => rfl
  | some r =>
    show (cutR f t r).getD k 0 = r.getD (f + k) 0
    unfold cutR
    rw [List.getD_eq_getElem?_getD, List.getD_eq_getElem?_getD, List.getElem?_take_of_lt hk, List.getElem?_drop]
theorem cut_valid {b : List (List Int)} {f t : Nat} (hv : blockB b = true) (hft : f ≤ t ∧ t ≤ framesB b) : blockB (cutM f t b) = true ∧ framesB (cutM f t b) = t - f := by
  obtain ⟨hC, hR⟩ := blockB_rows hv
  have hF : framesB b ≤ 4096 := by rw [frames0 (by omega)]; exact (hR _ (List.getElem_mem _)).2.1
  refine blockB_of (n := b.length) (N := t - f) hC (by omega) (cutM_len _ _ _) fun r hr => ?_
  obtain ⟨q, hq, rfl⟩ := List.mem_map.1 hr
  refine ⟨cutR_len (by have := (hR q hq).1; omega), fun x hx => ?_⟩
  unfold cutR at hx
  exact (hR q hq).2.2 x (List.mem_of_mem_drop (List.mem_of_mem_take hx))
theorem at2_front {b : List (List Int)} {n i : Nat} (hi : i < b.length * n) : at2 (cutM 0 n b) (i % b.length) (i / b.length) = at2 b (i % b.length) (i / b.length) := by
  rw [at2_cut (by have := Nat.div_lt_of_lt_mul hi; omega), Nat.zero_add]
theorem at2_back {b : List (List Int)} {n N j : Nat} (hC : 0 < b.length) (hj : j < b.length * (N - n)) : at2 (cutM n N b) (j % b.length) (j / b.length) = at2 b ((b.length * n + j) % b.length) ((b.length * n + j) / b.length) := by
  rw [at2_cut (Nat.div_lt_of_lt_mul hj), Nat.mul_add_mod, Nat.mul_add_div hC]
theorem encN_f (e : Int) (b : List (List Int)) (k : Nat) : encN e false b k = ((List.range k).map fun i => putL e (levF e (at2 b (i % b.length) (i / b.length)))).flatten := rfl
theorem encE_def (e : Int) (b : List (List Int)) : encE e b = if blockB b = true then if enc e then 0 else 7 else 1 := rfl
theorem encS_split {e : Int} {b : List (List Int)} {n : Nat} (hv : blockB b = true) (hn : n ≤ framesB b) : encS e false b = encS e false (cutM 0 n b) ++ encS e false (cutM n (framesB b) b) := by
  obtain ⟨hC, hR⟩ := blockB_rows hv
  obtain ⟨hv1, hf1⟩ := cut_valid (f := 0) (t := n) hv (by omega)
  obtain ⟨hv2, hf2⟩ := cut_valid (f := n) (t := framesB b) hv (by omega)
  unfold encS
  by_cases he : enc e
  · rw [if_pos ⟨hv, he⟩, if_pos ⟨hv1, he⟩, if_pos ⟨hv2, he⟩, ← bstr_append]
    unfold encL
    rw [hf1, hf2, cutM_len, cutM_len, Nat.sub_zero]
    have e1 : b.length * framesB b = b.length * n + b.length * (framesB b - n) := by rw [← Nat.mul_add]; congr 1; omega
    rw [e1, encN_f, encN_f, encN_f, flat_split, cutM_len, cutM_len]
    congr 2
    · refine congrArg List.flatten (List.map_congr_left fun i hi => ?_)
      rw [at2_front (List.mem_range.1 hi)]
    · refine congrArg List.flatten (List.map_congr_left fun j hj => ?_)
      rw [at2_back (by omega) (List.mem_range.1 hj)]
  · rw [if_neg (fun h => he h.2), if_neg (fun h => he h.2), if_neg (fun h => he h.2)]
    rfl
theorem dR_add (R : Int) (a : Nat) : ∀ j, dR R (a + j) = dR (dR R a) j
  | 0 => rfl
  | j + 1 => by
    show nxt (dR R (a + j)) = nxt (dR (dR R a) j)
    rw [dR_add R a j]
theorem dE_step (e : Int) (sh : Bool) (b : List (List Int)) (R : Int) (E : List Int) (i : Nat) : dE e sh b R E (i + 1) = if sh = true then (dE e sh b R E i).set (i % b.length) (dstepE e (dstepL e (dX b (dE e sh b R E i) i) (dR R (i + 1))) (dX b (dE e sh b R E i) i)) else dE e sh b R E i := rfl
theorem dX_f (b : List (List Int)) (E : List Int) (i : Nat) : dX b E i = at2 b (i % b.length) (i / b.length) - E.getD (i % b.length) 0 := rfl
theorem dX_front {b : List (List Int)} {n i : Nat} (E : List Int) (hi : i < b.length * n) : dX (cutM 0 n b) E i = dX b E i := by
  rw [dX_f, dX_f, cutM_len, at2_front hi]
theorem dX_back {b : List (List Int)} {n N j : Nat} (E : List Int) (hC : 0 < b.length) (hj : j < b.length * (N - n)) : dX (cutM n N b) E j = dX b E (b.length * n + j) := by
  rw [dX_f, dX_f, cutM_len, at2_back hC hj, Nat.mul_add_mod]
theorem dE_front {e : Int} {sh : Bool} {b : List (List Int)} {R : Int} {E : List Int} {n : Nat} : ∀ i, i ≤ b.length * n → dE e sh (cutM 0 n b) R E i = dE e sh b R E i
  | 0, _ => rfl
  | i + 1, h => by
    rw [dE_step, dE_step, dE_front i (by omega), dX_front _ (by omega), cutM_len]
theorem dE_back {e : Int} {sh : Bool} {b : List (List Int)} {R : Int} {E : List Int} {n N : Nat} (hC : 0 < b.length) : ∀ j, j ≤ b.length * (N - n) → dE e sh (cutM n N b) (dR R (b.length * n)) (dE e sh b R E (b.length * n)) j = dE e sh b R E (b.length * n + j)
  | 0, _ => rfl
  | j + 1, h => by
    rw [dE_step, dE_back hC j (by omega), ← Nat.add_assoc, dE_step e sh b, dX_back _ hC (by omega), ← dR_add, cutM_len, Nat.mul_add_mod, Nat.add_assoc]
theorem dL_front {e : Int} {sh : Bool} {b : List (List Int)} {R : Int} {E : List Int} {n i : Nat} (h : i < b.length * n) : dL e sh (cutM 0 n b) R E i = dL e sh b R E i := by
  unfold dL dA
  rw [dE_front i (by omega), dX_front _ h]
theorem dL_back {e : Int} {sh : Bool} {b : List (List Int)} {R : Int} {E : List Int} {n N j : Nat} (hC : 0 < b.length) (h : j < b.length * (N - n)) : dL e sh (cutM n N b) (dR R (b.length * n)) (dE e sh b R E (b.length * n)) j = dL e sh b R E (b.length * n + j) := by
  unfold dL dA
  rw [dE_back hC j (by omega), dX_back _ hC h, ← dR_add]
  rfl
theorem encD {e : Int} {sh : Bool} {b : List (List Int)} {R : Int} {E : List Int} {k : Nat} (hC : 0 < b.length) (hk : k ≤ b.length * framesB b) : encM e false (dM e sh b R E) k = ((List.range k).map fun i => putL e (dL e sh b R E i)).flatten := by
  unfold encM
  refine congrArg List.flatten (List.map_congr_left fun i hi => ?_)
  have hi := List.mem_range.1 hi
  have hM : (dM e sh b R E).length = b.length := by unfold dM; rw [matF_len]
  have hF : framesB (dM e sh b R E) = framesB b := by rw [frames0 (by omega)]; unfold dM; rw [matF_get, rowF_len]
  have h1 := pc_lt (pl := false) (N := framesB b) hC (by omega : i < b.length * framesB b)
  have h2 := pf_lt (C := b.length) (N := framesB b) (pl := false) (by omega : i < b.length * framesB b)
  rw [hM, hF]
  unfold dM
  rw [at2_matF h1 h2, dLm_eq, idx_place]
theorem dithS_split {e : Int} {sh : Bool} {b : List (List Int)} {R : Int} {E : List Int} {n : Nat} (hv : blockB b = true) (hn : n ≤ framesB b) (hl : b.length = E.length) :
    dithS e sh false b R E = dithS e sh false (cutM 0 n b) R E ++ dithS e sh false (cutM n (framesB b) b) (dithR (cutM 0 n b) R E) (dithE e sh (cutM 0 n b) R E) ∧
    dithE e sh b R E = dithE e sh (cutM n (framesB b) b) (dithR (cutM 0 n b) R E) (dithE e sh (cutM 0 n b) R E) := by
  obtain ⟨hC, hR⟩ := blockB_rows hv
  obtain ⟨hv1, hf1⟩ := cut_valid (f := 0) (t := n) hv (by omega)
  obtain ⟨hv2, hf2⟩ := cut_valid (f := n) (t := framesB b) hv (by omega)
  have h0 : dithC b E = 0 := by unfold dithC; rw [if_pos hv, if_pos hl]
  have h1 : dithC (cutM 0 n b) E = 0 := by unfold dithC; rw [if_pos hv1, if_pos (by rw [cutM_len]; exact hl)]
  have hR1 : dithR (cutM 0 n b) R E = dR R (b.length * n) := by unfold dithR; rw [if_pos h1, hf1, cutM_len, Nat.sub_zero]
  have hE1 : dithE e sh (cutM 0 n b) R E = dE e sh b R E (b.length * n) := by unfold dithE; rw [if_pos h1, hf1, cutM_len, Nat.sub_zero, dE_front _ (Nat.le_refl _)]
  have h2 : dithC (cutM n (framesB b) b) (dE e sh b R E (b.length * n)) = 0 := by unfold dithC; rw [if_pos hv2, if_pos (by rw [cutM_len, dE_len]; exact hl)]
  have e1 : b.length * framesB b = b.length * n + b.length * (framesB b - n) := by rw [← Nat.mul_add]; congr 1; omega
  rw [hR1, hE1]
  refine ⟨?_, ?_⟩
  · rw [dithS_def, dithS_def, dithS_def, if_pos h0, if_pos h1, if_pos h2, ← bstr_append, hf1, hf2, cutM_len, cutM_len, Nat.sub_zero]
    congr 1
    rw [encD (by omega) (Nat.le_refl _), encD (by rw [cutM_len]; omega) (by rw [cutM_len, hf1]; simp), encD (by rw [cutM_len]; omega) (by rw [cutM_len, hf2]; exact Nat.le_refl _), e1, flat_split]
    congr 2
    · refine List.map_congr_left fun i hi => ?_
      rw [dL_front (List.mem_range.1 hi)]
    · refine List.map_congr_left fun j hj => ?_
      rw [dL_back (by omega) (List.mem_range.1 hj)]
  · unfold dithE
    rw [if_pos h0, if_pos h2, hf2, cutM_len, dE_back (by omega) _ (Nat.le_refl _), e1]
theorem dithS_size {e : Int} {sh pl : Bool} {b : List (List Int)} {R : Int} {E : List Int} (he : enc e) : (dithS e sh pl b R E).size ≤ 131072 := by
  rw [dithS_def]
  by_cases h : dithC b E = 0
  · rw [if_pos h, bstr_len]
    have hv : blockB b = true := by
      cases hv : blockB b with
      | true => rfl
      | false => unfold dithC at h; rw [hv] at h; simp at h
    obtain ⟨hC, hR⟩ := blockB_rows hv
    have hF : framesB b ≤ 4096 := by rw [frames0 (by omega)]; exact (hR _ (List.getElem_mem _)).2.1
    have h1 := encM_len e pl (dM e sh b R E) (b.length * framesB b)
    have h2 : b.length * framesB b ≤ 8 * 4096 := Nat.mul_le_mul hC.2 hF
    omega
  · rw [if_neg h]
    show 0 ≤ _
    omega
theorem and_24 {n : Int} : bitsOf .and .i64 n 16777215 = n % 16777216 := by
  unfold bitsOf
  have h1 : (BitVec.ofInt IntKind.i64.bits n &&& BitVec.ofInt IntKind.i64.bits 16777215).toNat = (n % 16777216).toNat := by
    show (BitVec.ofInt 64 n &&& BitVec.ofInt 64 16777215).toNat = (n % 16777216).toNat
    rw [BitVec.toNat_and, BitVec.toNat_ofInt, BitVec.toNat_ofInt]
    have e : ((16777215 : Int) % ((2 ^ 64 : Nat) : Int)).toNat = 2 ^ 24 - 1 := by decide
    rw [e, Nat.and_two_pow_sub_one_eq_mod]
    omega
  simp only [h1]
  have h2 : IntKind.i64.wrap (((n % 16777216).toNat : Nat) : Int) = ((n % 16777216).toNat : Nat) := by
    have hb : 0 ≤ n % 16777216 ∧ n % 16777216 < 16777216 := ⟨Int.emod_nonneg _ (by omega), Int.emod_lt_of_pos _ (by omega)⟩
    generalize n % 16777216 = m at hb
    have e1 : IntKind.i64.bits = 64 := rfl
    have e2 : IntKind.i64.signed = true := rfl
    have e3 : ((m.toNat : Nat) : Int) = m := by omega
    have e4 : (2 : Int) ^ 64 = 18446744073709551616 := by decide
    have e5 : (2 : Int) ^ (64 - 1) = 9223372036854775808 := by decide
    rw [e3]
    unfold IntKind.wrap
    rw [e1, e2, e4, e5]
    have e6 : m % 18446744073709551616 = m := by omega
    simp only [e6]
    rw [if_neg (by simp; omega)]
  rw [h2]
  have hb : 0 ≤ n % 16777216 := Int.emod_nonneg _ (by omega)
  omega
theorem partF_c {a : Option Addr} {c L f t : Nat} {m : List (List Int)} {H : AHeap} {K : CK} (hx : Mat H a m) (hL : ∀ r ∈ m, r.length = L ∧ ∀ x ∈ r, -8388607 ≤ x ∧ x ≤ 8388607) (hn : 1 ≤ m.length ∧ m.length ≤ 1000000 ∧ L ≤ 1000000) (hft : f ≤ t ∧ t ≤ L)
    (h : ∀ H' p, H.le H' → Mat H' p (cutM f t m) → K (.returned (.slice p m.length m.length)) H') : callS P (fnV 27) [.slice a m.length c, iv f, iv t] H K := by
  refine callS_post ?_
  refine partG_c hx (fun r hr => (hL r hr).1) hn hft (fun H' o rs hle hom => ⟨_, HW.fz _ H.size, h _ _ (AHeap.le.fz hle (Nat.le_refl _)) (hom.fz (Nat.le_refl _) (by rw [cutM_len]; unfold maxN; omega) fun r hr => ?_)⟩)
  obtain ⟨q, hq, rfl⟩ := List.mem_map.1 hr
  refine ⟨by rw [cutR_len (by have := (hL q hq).1; omega)]; unfold maxN; omega, fun x hx => ?_⟩
  unfold cutR at hx
  have := (hL q hq).2 x (List.mem_of_mem_drop (List.mem_of_mem_take hx))
  unfold inR; omega
end Go.Abs
