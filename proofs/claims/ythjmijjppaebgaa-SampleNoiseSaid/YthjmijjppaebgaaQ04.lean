/- The dither's contracts, joined. -/
import Derived.Test.YthjmijjppaebgaaI04
import Derived.Test.YthjmijjppaebgaaN04
set_option linter.all false
set_option maxHeartbeats 1000000
set_option maxRecDepth 20000
namespace Go.Abs
open Go Go.Proofs

theorem DitN.own {H : AHeap} {d o : Nat} {e : Int} {sh : Bool} {R : Int} {E : List Int} (h : DitN H d o e sh R E) : ∀ j c sz, H.get j = some (.cells c false sz) → j ≠ d ∧ j ≠ o := fun j c sz hg =>
  ⟨fun hj => by rw [hj, h.gd] at hg; simp at hg, fun hj => by rw [hj, h.go] at hg; simp at hg⟩
theorem DitN.keep {H H' : AHeap} {d o : Nat} {e : Int} {sh : Bool} {R : Int} {E : List Int} (h : DitN H d o e sh R E) (hs : H.size ≤ H'.size) (hsame : ∀ j, j < H.size → j ≠ d → j ≠ o → H'.get j = H.get j) : Kp H H' :=
  ⟨hs, fun j c sz hj hg => (hsame j hj (h.own j c sz hg).1 (h.own j c sz hg).2).trans hg⟩
theorem DitN.other {H H' : AHeap} {d o d2 o2 : Nat} {e2 : Int} {sh2 : Bool} {R2 : Int} {E2 : List Int} (h2 : DitN H d2 o2 e2 sh2 R2 E2) (hs : H.size ≤ H'.size) (hsame : ∀ j, j < H.size → j ≠ d → j ≠ o → H'.get j = H.get j)
    (n1 : d2 ≠ d) (n2 : d2 ≠ o) (n3 : o2 ≠ d) (n4 : o2 ≠ o) : DitN H' d2 o2 e2 sh2 R2 E2 :=
  ⟨h2.ne, Nat.lt_of_lt_of_le h2.ld hs, Nat.lt_of_lt_of_le h2.lo hs, (hsame _ h2.ld n1 n2).trans h2.gd, (hsame _ h2.lo n3 n4).trans h2.go⟩
theorem at2_bdM {m : List (List Int)} {A : Int} (hA : 0 ≤ A) (h : ∀ r ∈ m, ∀ x ∈ r, 0 - A ≤ x ∧ x ≤ A) (c f : Nat) : 0 - A ≤ at2 m c f ∧ at2 m c f ≤ A := by
  unfold at2
  by_cases h1 : c < m.length
  · by_cases h2 : f < m[c].length
    · simp [h1, h2]
      have := h _ (List.getElem_mem h1) _ (List.getElem_mem h2)
      omega
    · simp [h1, h2, hA]
  · rw [List.getD_eq_getElem?_getD (l := m), List.getElem?_eq_none (by omega : m.length ≤ c)]
    show 0 - A ≤ (0 : Int) ∧ (0 : Int) ≤ A
    omega
theorem lev_encM {e : Int} (he : enc e) {pl : Bool} {m : List (List Int)} {N : Nat} (hC : 1 ≤ m.length ∧ m.length ≤ 8) (hN : N ≤ 4096) (hR : ∀ r ∈ m, r.length = N ∧ ∀ x ∈ r, 0 - maxF e ≤ x ∧ x ≤ maxF e) :
    decE e m.length (bstr (encM e pl m (m.length * N))) = 0 ∧ levM e pl m.length (bstr (encM e pl m (m.length * N))) = m ∧ (bstr (encM e pl m (m.length * N))).size ≤ 131072 := by
  have hF : framesB m = N := by rw [frames0 (by omega)]; exact (hR _ (List.getElem_mem _)).1
  obtain ⟨_, hn⟩ := nB_bits he
  have hmx := maxF_bd e
  obtain ⟨h1, h2, h3⟩ := dec_encM he (pl := pl) hC.1 (at2_bdM (by omega) (fun r hr => (hR r hr).2))
  rw [hF] at h1 h2 h3
  generalize bstr (encM e pl m (m.length * N)) = s at *
  have hE : decE e m.length s = 0 := by
    unfold decE
    have h0 : nB e * (m.length * N) % (nB e * m.length) = 0 := by rw [← Nat.mul_assoc]; exact Nat.mul_mod_right _ _
    rw [if_pos ⟨he, by omega, by omega⟩, Int.toNat_natCast, h2, h1, if_pos ⟨h0, hN⟩]
  refine ⟨hE, ?_, ?_⟩
  · unfold levM
    rw [if_pos hE, Int.toNat_natCast, h2]
    rw [matF_congr (g := at2 m) (fun i hi c hc => h3 i c hi hc)]
    exact matF_self rfl fun r hr => (hR r hr).1
  · rw [h1]
    have hm : m.length * N ≤ 8 * 4096 := Nat.mul_le_mul hC.2 hN
    calc nB e * (m.length * N) ≤ 4 * (8 * 4096) := Nat.mul_le_mul hn.2 hm
      _ = 131072 := rfl
theorem noise_near {e x r : Int} (he : enc e) (h4 : e ≤ 4) (hx : -8388607 ≤ x ∧ x ≤ 8388607) (hr : inD r) : -1 ≤ dstepL e x r - levF e x ∧ dstepL e x r - levF e x ≤ 1 := by
  have hm := mod_bd e hr
  have hu := Int.tmod_lt_of_pos r (by have := unitF_bd e; omega : 0 < unitF e)
  unfold dstepL levF
  rw [if_neg (by omega), if_neg (by omega)]
  generalize r.tmod (unitF e) = n at *
  have hmx := maxF_bd e
  generalize maxF e = M at *
  unfold rnd
  rcases (by omega : e ≤ 2 ∨ 2 < e) with h2 | h2
  · have h3 : unitF e = 65536 := by unfold unitF; rw [if_pos h2]
    rw [h3] at hu ⊢
    have h1 : ((65536 : Int).tdiv 2) = 32768 := rfl
    rw [h1]
    split
    · rw [Int.tdiv_eq_ediv_of_nonneg (by omega)]
      split
      · rw [Int.tdiv_eq_ediv_of_nonneg (by omega)]; omega
      · rw [Int.tdiv_eq_ediv_of_nonneg (by omega)]; omega
    · rw [Int.tdiv_eq_ediv_of_nonneg (by omega)]
      split
      · rw [Int.tdiv_eq_ediv_of_nonneg (by omega)]; omega
      · rw [Int.tdiv_eq_ediv_of_nonneg (by omega)]; omega
  · have h3 : unitF e = 256 := by unfold unitF; rw [if_neg (by omega)]
    rw [h3] at hu ⊢
    have h1 : ((256 : Int).tdiv 2) = 128 := rfl
    rw [h1]
    split
    · rw [Int.tdiv_eq_ediv_of_nonneg (by omega)]
      split
      · rw [Int.tdiv_eq_ediv_of_nonneg (by omega)]; omega
      · rw [Int.tdiv_eq_ediv_of_nonneg (by omega)]; omega
    · rw [Int.tdiv_eq_ediv_of_nonneg (by omega)]
      split
      · rw [Int.tdiv_eq_ediv_of_nonneg (by omega)]; omega
      · rw [Int.tdiv_eq_ediv_of_nonneg (by omega)]; omega
theorem dE_unit {e : Int} {sh : Bool} {b : List (List Int)} {R : Int} {E : List Int} (h : ∀ x ∈ E, 0 - unitF e ≤ x ∧ x ≤ unitF e) : ∀ i, ∀ x ∈ dE e sh b R E i, 0 - unitF e ≤ x ∧ x ≤ unitF e
  | 0 => h
  | i + 1 => fun x hx => by
    cases sh with
    | false => exact dE_unit h i x hx
    | true =>
      rw [dE_t] at hx
      rcases List.mem_or_eq_of_mem_set hx with h1 | h1
      · exact dE_unit h i x h1
      · have := unitF_bd e
        rw [h1, dstepE_eq]
        omega
theorem dithE_unit {e : Int} {sh : Bool} {b : List (List Int)} {R : Int} {E : List Int} (h : ∀ x ∈ E, 0 - unitF e ≤ x ∧ x ≤ unitF e) : ∀ x ∈ dithE e sh b R E, 0 - unitF e ≤ x ∧ x ≤ unitF e := by
  unfold dithE
  split
  · exact dE_unit h _
  · exact h
theorem dithS_def (e : Int) (sh pl : Bool) (b : List (List Int)) (R : Int) (E : List Int) : dithS e sh pl b R E = if dithC b E = 0 then bstr (encM e pl (dM e sh b R E) (b.length * framesB b)) else .empty := rfl
theorem dL_def (e : Int) (sh : Bool) (b : List (List Int)) (R : Int) (E : List Int) (i : Nat) : dL e sh b R E i = dstepL e (dA e sh b R E i) (dR R (i + 1)) := rfl
theorem encE_ok {e : Int} {b : List (List Int)} (he : enc e) (hv : blockB b = true) : encE e b = 0 := by unfold encE; rw [if_pos hv, if_pos he]
theorem okE_zero (n : Nat) : okE (List.replicate n 0) := fun x hx => by rw [List.eq_of_mem_replicate hx]; omega
theorem plainE_zero (sh : Bool) (n : Nat) : plainE sh (List.replicate n 0) := fun _ x hx => List.eq_of_mem_replicate hx
theorem dithC_zero {b : List (List Int)} (h : blockB b = true) : dithC b (List.replicate b.length 0) = 0 := by
  unfold dithC; rw [if_pos h, if_pos (List.length_replicate).symm]
theorem okE_inR {E : List Int} (h : okE E) : ∀ x ∈ E, inR x := fun x hx => by have := h x hx; unfold inR; omega
end Go.Abs
