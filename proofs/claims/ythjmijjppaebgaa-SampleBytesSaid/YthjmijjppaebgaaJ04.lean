/- Laws: bytes that are read and written again. -/
import Derived.Test.YthjmijjppaebgaaV04
set_option linter.all false
set_option maxHeartbeats 1000000
set_option maxRecDepth 20000
namespace Go.Abs
open Go Go.Proofs

theorem byteF_leV {l : Int} : ∀ {bs : List Int}, (∀ b ∈ bs, 0 ≤ b ∧ b < 256) → bs.length ≤ 4 → l % 256 ^ bs.length = leV bs → ∀ k, k < bs.length → byteF l k = bs.getD k 0
  | [], _, _, _ => fun k hk => absurd hk (Nat.not_lt_zero _)
  | [a], hb, _, h => fun k hk => by
    have h1 := hb a (by simp)
    obtain ⟨e0, e1, e2, e3⟩ := byteF_div l
    have h : l % 256 = a + 256 * 0 := by
      have e : (256 : Int) ^ 1 = 256 := by decide
      have h : l % 256 ^ 1 = _ := h
      rw [e] at h
      exact h
    obtain rfl : k = 0 := by simp at hk; exact hk
    show byteF l 0 = a
    omega
  | [a, b], hb, _, h => fun k hk => by
    have h1 := hb a (by simp)
    have h2 := hb b (by simp)
    obtain ⟨e0, e1, e2, e3⟩ := byteF_div l
    have h : l % 65536 = a + 256 * (b + 256 * 0) := by
      have e : (256 : Int) ^ 2 = 65536 := by decide
      have h : l % 256 ^ 2 = _ := h
      rw [e] at h
      exact h
    have hk : k < 2 := hk
    rcases (by omega : k = 0 ∨ k = 1) with rfl | rfl
    · show byteF l 0 = a
      omega
    · show byteF l 1 = b
      omega
  | [a, b, c], hb, _, h => fun k hk => by
    have h1 := hb a (by simp)
    have h2 := hb b (by simp)
    have h3 := hb c (by simp)
    obtain ⟨e0, e1, e2, e3⟩ := byteF_div l
    have h : l % 16777216 = a + 256 * (b + 256 * (c + 256 * 0)) := by
      have e : (256 : Int) ^ 3 = 16777216 := by decide
      have h : l % 256 ^ 3 = _ := h
      rw [e] at h
      exact h
    have hk : k < 3 := hk
    rcases (by omega : k = 0 ∨ k = 1 ∨ k = 2) with rfl | rfl | rfl
    · show byteF l 0 = a
      omega
    · show byteF l 1 = b
      omega
    · show byteF l 2 = c
      omega
  | [a, b, c, d], hb, _, h => fun k hk => by
    have h1 := hb a (by simp)
    have h2 := hb b (by simp)
    have h3 := hb c (by simp)
    have h4 := hb d (by simp)
    obtain ⟨e0, e1, e2, e3⟩ := byteF_div l
    have h : l % 4294967296 = a + 256 * (b + 256 * (c + 256 * (d + 256 * 0))) := by
      have e : (256 : Int) ^ 4 = 4294967296 := by decide
      have h : l % 256 ^ 4 = _ := h
      rw [e] at h
      exact h
    have hk : k < 4 := hk
    rcases (by omega : k = 0 ∨ k = 1 ∨ k = 2 ∨ k = 3) with rfl | rfl | rfl | rfl
    · show byteF l 0 = a
      omega
    · show byteF l 1 = b
      omega
    · show byteF l 2 = c
      omega
    · show byteF l 3 = d
      omega
  | _ :: _ :: _ :: _ :: _ :: _, _, h, _ => fun _ _ => by simp at h
theorem rawV_mod {v w : Int} (hw : 0 < w) (hv : 0 ≤ v ∧ v < 2 * w) : rawV v w % (2 * w) = v := by
  unfold rawV
  split
  · have e : v - 2 * w = v + (2 * w) * (-1) := by omega
    rw [e, Int.add_mul_emod_self_left]
    exact Int.emod_eq_of_lt hv.1 hv.2
  · exact Int.emod_eq_of_lt hv.1 hv.2
theorem put_raw {e : Int} {s : ByteArray} {o : Nat} (he : enc e) : putL e (rawD e s o) = bytesAt s o (nB e) false := by
  obtain ⟨_, hn⟩ := nB_bits he
  refine getD_ext (by rw [putL_n he, bytesAt_len]) fun j hj => ?_
  rw [putL_n he] at hj
  rw [bytesAt_getD hj]
  unfold rawD
  by_cases h2 : e = 2
  · subst h2
    rw [if_pos rfl]
    have hb := sAt_bd s o
    have : j < 1 := hj
    obtain rfl : j = 0 := by omega
    show (sAt s o - 128 + 128) % 256 = sAt s o
    omega
  · rw [if_neg h2, half_eq he]
    have hw : (256 : Int) ^ nB e = 2 * halfN (nB e) ∧ 0 < halfN (nB e) := by
      rcases (by omega : nB e = 1 ∨ nB e = 2 ∨ nB e = 3 ∨ nB e = 4) with h | h | h | h <;> rw [h] <;> decide
    have hbd := leV_bd (bs := bytesAt s o (nB e) (bigE e)) bytesAt_bd
    rw [bytesAt_len, hw.1] at hbd
    have hmod := rawV_mod hw.2 hbd
    have hk : (if bigE e = true then nB e - 1 - j else j) < nB e := by split <;> omega
    have h1 := putL_at (l := rawV (leV (bytesAt s o (nB e) (bigE e))) (halfN (nB e))) he h2 hk
    have hinv : (if bigE e = true then nB e - 1 - (if bigE e = true then nB e - 1 - j else j) else (if bigE e = true then nB e - 1 - j else j)) = j := by
      split
      · omega
      · rfl
    rw [hinv] at h1
    rw [h1]
    rw [byteF_leV (bs := bytesAt s o (nB e) (bigE e)) bytesAt_bd (by rw [bytesAt_len]; exact hn.2) (by rw [bytesAt_len, hw.1]; exact hmod) _ (by rw [bytesAt_len]; exact hk)]
    rw [List.getD_eq_getElem?_getD, List.getElem?_eq_getElem (by rw [bytesAt_len]; exact hk), Option.getD_some, bytesAt_get, hinv]
theorem lev_samp {e l : Int} (he : enc e) (h7 : e < 7) (hl : 0 - maxF e ≤ l ∧ l ≤ maxF e) : levF e (sampF e l) = l := by
  unfold sampF levF
  have n7 : ¬ 7 ≤ e := by omega
  by_cases h5 : 5 ≤ e
  · simp only [if_neg n7, if_pos h5]
  · simp only [if_neg n7, if_neg h5]
    unfold rnd
    rcases (by omega : e ≤ 2 ∨ 2 < e) with h2 | h2
    · have h3 : unitF e = 65536 := by unfold unitF; rw [if_pos h2]
      rw [h3]
      have h1 : ((65536 : Int).tdiv 2) = 32768 := rfl
      rw [h1]
      split
      · rw [Int.tdiv_eq_ediv_of_nonneg (by omega)]; omega
      · rw [Int.tdiv_eq_ediv_of_nonneg (by omega)]; omega
    · have h3 : unitF e = 256 := by unfold unitF; rw [if_neg (by omega)]
      rw [h3]
      have h1 : ((256 : Int).tdiv 2) = 128 := rfl
      rw [h1]
      split
      · rw [Int.tdiv_eq_ediv_of_nonneg (by omega)]; omega
      · rw [Int.tdiv_eq_ediv_of_nonneg (by omega)]; omega
theorem blockB_of {m : List (List Int)} {n N : Nat} (hn : 1 ≤ n ∧ n ≤ 8) (hN : N ≤ 4096) (hl : m.length = n) (hr : ∀ r ∈ m, r.length = N ∧ ∀ x ∈ r, -8388607 ≤ x ∧ x ≤ 8388607) : blockB m = true ∧ framesB m = N := by
  have hh : framesB m = N := by
    rw [frames0 (by omega)]
    exact (hr _ (List.getElem_mem _)).1
  refine ⟨?_, hh⟩
  unfold blockB
  rw [Bool.and_eq_true, Bool.and_eq_true, decide_eq_true_eq, decide_eq_true_eq]
  refine ⟨by omega, List.all_eq_true.2 fun r hrm => ?_⟩
  obtain ⟨h1, h2⟩ := hr r hrm
  unfold framesB at hh
  unfold rowOk
  rw [Bool.and_eq_true, Bool.and_eq_true, decide_eq_true_eq, decide_eq_true_eq]
  refine ⟨⟨by rw [hh, h1], by omega⟩, List.all_eq_true.2 fun x hx => ?_⟩
  have := h2 x hx
  unfold okS
  rw [Bool.and_eq_true, decide_eq_true_eq, decide_eq_true_eq]
  exact this
theorem levM_def (e : Int) (pl : Bool) (C : Int) (s : ByteArray) : levM e pl C s = if decE e C s = 0 then matF (levAt e pl C.toNat s) C.toNat (decN e C.toNat s) else [] := rfl
theorem enc_dec {e C : Int} {pl : Bool} {s : ByteArray} (h0 : decE e C s = 0) (h7 : e < 7) (hl : ∀ c f, c < C.toNat → f < decN e C.toNat s → levAt e pl C.toNat s c f ≠ 0 - maxF e) : encE e (decM e pl C s) = 0 ∧ encS e pl (decM e pl C s) = s := by
  have hM : decM e pl C s = matF (fun c f => sampF e (levAt e pl C.toNat s c f)) C.toNat (decN e C.toNat s) := by unfold decM; rw [if_pos h0]
  obtain ⟨n, rfl, he, hn, hN, hs⟩ := decE_zero h0
  rw [hM]
  rw [Int.toNat_natCast] at hl ⊢
  have hlb : ∀ c f, 0 - maxF e ≤ levAt e pl n s c f ∧ levAt e pl n s c f ≤ maxF e := fun c f => by unfold levAt; exact levD_bd he s _
  obtain ⟨hB, hF⟩ := blockB_of (m := matF (fun c f => sampF e (levAt e pl n s c f)) n (decN e n s)) hn hN (by simp) (fun r hr => by
    obtain ⟨i, hi, rfl⟩ := mem_matF hr
    refine ⟨rowF_len _ _, fun x hx => ?_⟩
    obtain ⟨f, hf, rfl⟩ := mem_rowF hx
    exact sampF_bd (hlb i f))
  refine ⟨by unfold encE; rw [if_pos hB, if_pos he], ?_⟩
  unfold encS encL
  rw [if_pos ⟨hB, he⟩, hF, matF_len]
  have hL : encN e pl (matF (fun c f => sampF e (levAt e pl n s c f)) n (decN e n s)) (n * decN e n s) = byL s := by
    rw [← bytes_whole hs]
    unfold encN
    rw [hF, matF_len]
    refine congrArg List.flatten (List.map_congr_left fun i hi => ?_)
    have hi := List.mem_range.1 hi
    have hc := pc_lt (pl := pl) (C := n) (by omega) hi
    have hf := pf_lt (pl := pl) (C := n) hi
    rw [at2_matF hc hf, lev_samp he h7 (hlb _ _), ← put_raw he]
    have h1 := hl _ _ hc hf
    unfold levAt at h1 ⊢
    rw [idx_place] at h1 ⊢
    congr 1
    unfold levD at h1 ⊢
    omega
  rw [hL, bstr_byL]
end Go.Abs
