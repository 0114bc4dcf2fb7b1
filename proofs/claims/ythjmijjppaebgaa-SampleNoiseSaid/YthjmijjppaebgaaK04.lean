/- Laws of bytes: what is written is read back; samples behind levels are near. -/
import Derived.Test.YthjmijjppaebgaaE04
set_option linter.all false
set_option maxHeartbeats 1000000
set_option maxRecDepth 20000
namespace Go.Abs
open Go Go.Proofs

theorem sAt_bstr {bs : List Int} (hb : ∀ b ∈ bs, 0 ≤ b ∧ b < 256) {k : Nat} (hk : k < bs.length) : sAt (bstr bs) k = bs.getD k 0 := by
  have h := hb _ (List.getElem_mem hk)
  simp [sAt, bstr, strV, hk, byteV]
  omega
theorem flats_len {f : Nat → List Int} {n m : Nat} (h : ∀ i, i < m → (f i).length = n) : (((List.range m).map f).flatten).length = n * m := by
  induction m with
  | zero => simp
  | succ m ih =>
    rw [List.range_succ, List.map_append, List.flatten_append, List.length_append, ih (fun i hi => h i (by omega))]
    simp [h m (by omega), Nat.mul_add]
theorem flats_get {f : Nat → List Int} {n m : Nat} (h : ∀ i, i < m → (f i).length = n) {i k : Nat} (hi : i < m) (hk : k < n) : (((List.range m).map f).flatten).getD (n * i + k) 0 = (f i).getD k 0 := by
  induction m with
  | zero => omega
  | succ m ih =>
    have hl := flats_len (f := f) (n := n) (m := m) (fun i hi => h i (by omega))
    rw [List.range_succ, List.map_append, List.flatten_append, List.getD_eq_getElem?_getD, List.getElem?_append, hl]
    by_cases him : i < m
    · have h1 : n * i + n ≤ n * m := by
        have := Nat.mul_le_mul_left n (him : i + 1 ≤ m)
        rw [Nat.mul_succ] at this; exact this
      rw [if_pos (by omega), ← List.getD_eq_getElem?_getD]
      exact ih (fun i hi => h i (by omega)) him
    · obtain rfl : i = m := by omega
      rw [if_neg (by omega)]
      simp
theorem putL_bd (e l : Int) : ∀ b ∈ putL e l, 0 ≤ b ∧ b < 256 := by
  have h := byteF_bd l
  have h0 := h 0
  have h1 := h 1
  have h2 := h 2
  have h3 := h 3
  intro b hb
  unfold putL at hb
  repeat' split at hb
  all_goals
    simp only [List.mem_cons, List.not_mem_nil, or_false] at hb
  · rw [hb]; exact h0
  · omega
  · rcases hb with rfl | rfl <;> assumption
  · rcases hb with rfl | rfl <;> assumption
  · rcases hb with rfl | rfl | rfl <;> assumption
  · rcases hb with rfl | rfl | rfl <;> assumption
  · rcases hb with rfl | rfl | rfl | rfl <;> assumption
  · rcases hb with rfl | rfl | rfl | rfl <;> assumption
theorem putL_n {e l : Int} (he : enc e) : (putL e l).length = nB e := by
  rcases enc_cases he with rfl | rfl | rfl | rfl | rfl | rfl | rfl | rfl <;> rfl
theorem putL_at {e l : Int} (he : enc e) (h2 : e ≠ 2) {k : Nat} (hk : k < nB e) : (putL e l).getD (if bigE e = true then nB e - 1 - k else k) 0 = byteF l k := by
  rcases enc_cases he with rfl | rfl | rfl | rfl | rfl | rfl | rfl | rfl
  · obtain rfl : k = 0 := by have : k < 1 := hk; omega
    rfl
  · exact absurd rfl h2
  · have : k < 2 := hk
    rcases (by omega : k = 0 ∨ k = 1) with rfl | rfl <;> rfl
  · have : k < 2 := hk
    rcases (by omega : k = 0 ∨ k = 1) with rfl | rfl <;> rfl
  · have : k < 3 := hk
    rcases (by omega : k = 0 ∨ k = 1 ∨ k = 2) with rfl | rfl | rfl <;> rfl
  · have : k < 3 := hk
    rcases (by omega : k = 0 ∨ k = 1 ∨ k = 2) with rfl | rfl | rfl <;> rfl
  · have : k < 4 := hk
    rcases (by omega : k = 0 ∨ k = 1 ∨ k = 2 ∨ k = 3) with rfl | rfl | rfl | rfl <;> rfl
  · have : k < 4 := hk
    rcases (by omega : k = 0 ∨ k = 1 ∨ k = 2 ∨ k = 3) with rfl | rfl | rfl | rfl <;> rfl
theorem byteF_div (l : Int) : byteF l 0 = l % 256 ∧ byteF l 1 = l / 256 % 256 ∧ byteF l 2 = l / 65536 % 256 ∧ byteF l 3 = l / 16777216 % 256 := by
  unfold byteF
  rw [shr_eq, shr_eq, shr_eq, shr_eq]
  refine ⟨?_, rfl, rfl, rfl⟩
  show l / 1 % 256 = l % 256
  omega
theorem leV_bytes (l : Int) {n : Nat} (hn : 1 ≤ n ∧ n ≤ 4) : leV ((List.range n).map (byteF l)) = l % 256 ^ n := by
  obtain ⟨h0, h1, h2, h3⟩ := byteF_div l
  rcases (by omega : n = 1 ∨ n = 2 ∨ n = 3 ∨ n = 4) with rfl | rfl | rfl | rfl
  · show byteF l 0 + 256 * 0 = l % 256
    omega
  · show byteF l 0 + 256 * (byteF l 1 + 256 * 0) = l % 65536
    omega
  · show byteF l 0 + 256 * (byteF l 1 + 256 * (byteF l 2 + 256 * 0)) = l % 16777216
    omega
  · show byteF l 0 + 256 * (byteF l 1 + 256 * (byteF l 2 + 256 * (byteF l 3 + 256 * 0))) = l % 4294967296
    omega
theorem rawD_put {e l : Int} {t : ByteArray} {o : Nat} (he : enc e) (hl : 0 - maxF e ≤ l ∧ l ≤ maxF e) (ht : ∀ k, k < nB e → sAt t (o + k) = (putL e l).getD k 0) : rawD e t o = l := by
  obtain ⟨_, hn⟩ := nB_bits he
  unfold rawD
  by_cases h2 : e = 2
  · rw [if_pos h2]
    subst h2
    have := ht 0 (by decide)
    rw [Nat.add_zero] at this
    rw [this]
    have hm : maxF 2 = 127 := rfl
    show (l + 128) % 256 - 128 = l
    omega
  · rw [if_neg h2]
    have hb : bytesAt t o (nB e) (bigE e) = (List.range (nB e)).map (byteF l) := List.map_congr_left fun k hk => by
      have hk := List.mem_range.1 hk
      rw [← putL_at he h2 hk]
      exact ht _ (by split <;> omega)
    rw [hb, leV_bytes l hn, half_eq he]
    have hm := half_eq he
    have h256 : (256 : Int) ^ nB e = 2 * halfN (nB e) ∧ 0 < halfN (nB e) := by
      rcases (by omega : nB e = 1 ∨ nB e = 2 ∨ nB e = 3 ∨ nB e = 4) with h | h | h | h <;> rw [h] <;> decide
    rw [h256.1]
    generalize halfN (nB e) = w at *
    unfold rawV
    have hp := h256.2
    by_cases h0 : 0 ≤ l
    · have hq : l % (2 * w) = l := Int.emod_eq_of_lt h0 (by omega)
      rw [hq, if_neg (by omega)]
    · have hq : l % (2 * w) = l + 2 * w := by
        rw [← Int.add_emod_right]
        exact Int.emod_eq_of_lt (by omega) (by omega)
      rw [hq, if_pos (by omega)]; omega
theorem dec_encM {e : Int} (he : enc e) {pl : Bool} {m : List (List Int)} (hC : 1 ≤ m.length) (hL : ∀ c f, 0 - maxF e ≤ at2 m c f ∧ at2 m c f ≤ maxF e) :
    (bstr (encM e pl m (m.length * framesB m))).size = nB e * (m.length * framesB m) ∧ decN e m.length (bstr (encM e pl m (m.length * framesB m))) = framesB m ∧
    ∀ c f, c < m.length → f < framesB m → levAt e pl m.length (bstr (encM e pl m (m.length * framesB m))) c f = at2 m c f := by
  obtain ⟨_, hn⟩ := nB_bits he
  have hlen : (encM e pl m (m.length * framesB m)).length = nB e * (m.length * framesB m) := flats_len fun i _ => putL_n he
  have hsz : (bstr (encM e pl m (m.length * framesB m))).size = nB e * (m.length * framesB m) := by rw [bstr_len, hlen]
  have hN : decN e m.length (bstr (encM e pl m (m.length * framesB m))) = framesB m := by
    unfold decN
    rw [hsz, ← Nat.mul_assoc]
    exact Nat.mul_div_cancel_left _ (Nat.mul_pos hn.1 hC)
  refine ⟨hsz, hN, fun c f hc hf => ?_⟩
  unfold levAt levD
  rw [hN]
  have hi := idx_lt (pl := pl) hc hf
  have hp := place_idx (pl := pl) hc hf
  have hr : rawD e (bstr (encM e pl m (m.length * framesB m))) (nB e * idx pl m.length (framesB m) c f) = at2 m c f := by
    refine rawD_put he (hL c f) fun k hk => ?_
    have hlt : nB e * idx pl m.length (framesB m) c f + k < nB e * (m.length * framesB m) := by
      have h1 := Nat.mul_le_mul_left (nB e) (hi : idx pl m.length (framesB m) c f + 1 ≤ _)
      rw [Nat.mul_succ] at h1
      omega
    rw [sAt_bstr ?_ (by rw [hlen]; exact hlt)]
    · refine (flats_get (fun i _ => putL_n he) hi hk).trans ?_
      rw [hp.1, hp.2]
    · intro b hb
      obtain ⟨l, hl, hb⟩ := List.mem_flatten.1 hb
      obtain ⟨i, _, rfl⟩ := List.mem_map.1 hl
      exact putL_bd _ _ b hb
  rw [hr]
  have := hL c f
  omega
theorem levF_max {e x : Int} (he : enc e) (hx : inS x) : 0 - maxF e ≤ levF e x ∧ levF e x ≤ maxF e := by
  have hm := maxF_bd e
  unfold levF
  by_cases h7 : 7 ≤ e
  · rw [if_pos h7]; unfold maxF; omega
  · rw [if_neg h7]
    by_cases h5 : 5 ≤ e
    · rw [if_pos h5]; unfold maxF; omega
    · rw [if_neg h5]; omega
theorem enc_lev {e : Int} {pl : Bool} {b : List (List Int)} (he : enc e) (hb : blockB b = true) :
    decE e b.length (encS e pl b) = 0 ∧ decN e b.length (encS e pl b) = framesB b ∧ levM e pl b.length (encS e pl b) = mapM (levF e) b := by
  obtain ⟨hC, hR⟩ := blockB_rows hb
  obtain ⟨_, hn⟩ := nB_bits he
  have hS : encS e pl b = bstr (encM e pl (mapM (levF e) b) ((mapM (levF e) b).length * framesB (mapM (levF e) b))) := by
    rw [encM_map, mapM_len, mapM_frames]
    unfold encS encL
    rw [if_pos ⟨hb, he⟩]
  have hat : ∀ c f, inS (at2 b c f) := fun c f => by
    unfold at2
    by_cases h1 : c < b.length
    · by_cases h2 : f < b[c].length
      · simp [h1, h2]
        exact (hR _ (List.getElem_mem h1)).2.2 _ (List.getElem_mem h2)
      · simp [h1, h2]
        show inS _
        unfold inS; omega
    · rw [List.getD_eq_getElem?_getD (l := b), List.getElem?_eq_none (by omega : b.length ≤ c)]
      show inS 0
      unfold inS; omega
  have hlv : ∀ c f, 0 - maxF e ≤ at2 (mapM (levF e) b) c f ∧ at2 (mapM (levF e) b) c f ≤ maxF e := fun c f => by
    rw [at2_mapM (levF0 e)]
    exact levF_max he (hat c f)
  obtain ⟨h1, h2, h3⟩ := dec_encM he (pl := pl) (by rw [mapM_len]; exact hC.1) hlv
  rw [← hS] at h1 h2 h3
  rw [mapM_len] at h1 h2 h3
  rw [mapM_frames] at h1 h2 h3
  have hF : framesB b ≤ 4096 := by
    have := hR b[0] (List.getElem_mem (by omega))
    omega
  have hE : decE e b.length (encS e pl b) = 0 := by
    unfold decE
    have h0 : nB e * (b.length * framesB b) % (nB e * b.length) = 0 := by rw [← Nat.mul_assoc]; exact Nat.mul_mod_right _ _
    rw [if_pos ⟨he, by omega, by omega⟩, Int.toNat_natCast, h2, h1, if_pos ⟨h0, hF⟩]
  refine ⟨hE, h2, ?_⟩
  unfold levM
  rw [if_pos hE, Int.toNat_natCast, h2]
  rw [matF_congr (g := at2 (mapM (levF e) b)) (fun i hi c hc => h3 i c hi hc)]
  refine matF_self (mapM_len _ _) fun r hr => ?_
  obtain ⟨q, hq, rfl⟩ := List.mem_map.1 hr
  rw [List.length_map]
  exact (hR q hq).1
theorem encS_size (e : Int) (pl : Bool) (b : List (List Int)) : (encS e pl b).size ≤ 131072 := by
  unfold encS
  by_cases h : blockB b = true ∧ enc e
  · rw [if_pos h, bstr_len]
    obtain ⟨hC, hR⟩ := blockB_rows h.1
    have h1 := encN_len e pl b (b.length * framesB b)
    have h2 : b.length * framesB b ≤ 8 * 4096 := Nat.mul_le_mul hC.2 (by have := hR b[0] (List.getElem_mem (by omega)); omega)
    unfold encL
    omega
  · rw [if_neg h]
    show 0 ≤ _
    omega
end Go.Abs
