/- Reading bytes: what the program takes and what the reference reads. -/
import Derived.Test.YthjmijjppaebgaaU04
set_option linter.all false
set_option maxHeartbeats 2000000
set_option maxRecDepth 20000
namespace Go.Abs
open Go Go.Proofs

theorem sAt_bd (t : ByteArray) (i : Nat) : 0 ≤ sAt t i ∧ sAt t i < 256 := by
  unfold sAt
  have := (t.data.toList.getD i 0).toNat_lt
  omega
theorem sAt_extract {s : ByteArray} {a b k : Nat} (h : a + k < b) (hb : b ≤ s.size) : sAt (s.extract a b) k = sAt s (a + k) := by
  have h1 : (s.extract a b).data.toList.getD k 0 = s.data.toList.getD (a + k) 0 := by
    have hb' : b ≤ s.data.size := hb
    rw [ByteArray.data_extract, Array.toList_extract]
    simp only [List.getD_eq_getElem?_getD]
    rw [List.extract_eq_take_drop, List.getElem?_take_of_lt (by omega), List.getElem?_drop]
  unfold sAt
  rw [h1]
def leV : List Int → Int
  | [] => 0
  | b :: bs => b + 256 * leV bs
theorem leV_bd : ∀ {bs : List Int}, (∀ b ∈ bs, 0 ≤ b ∧ b < 256) → 0 ≤ leV bs ∧ leV bs < 256 ^ bs.length
  | [], _ => by simp [leV]
  | b :: bs, h => by
    have ih := leV_bd (bs := bs) fun x hx => h x (List.mem_cons_of_mem _ hx)
    have hb := h b (List.mem_cons_self ..)
    rw [leV, List.length_cons, Int.pow_succ]
    omega
def bytesAt (t : ByteArray) (o n : Nat) (g : Bool) : List Int := (List.range n).map fun i => sAt t (o + if g = true then n - 1 - i else i)
theorem bytesAt_len (t : ByteArray) (o n : Nat) (g : Bool) : (bytesAt t o n g).length = n := by simp [bytesAt]
theorem bytesAt_get {t : ByteArray} {o n : Nat} {g : Bool} {i : Nat} (h : i < (bytesAt t o n g).length) : (bytesAt t o n g)[i] = sAt t (o + if g = true then n - 1 - i else i) := by simp [bytesAt]
theorem bytesAt_bd {t : ByteArray} {o n : Nat} {g : Bool} : ∀ b ∈ bytesAt t o n g, 0 ≤ b ∧ b < 256 := fun b hb => by
  obtain ⟨i, _, rfl⟩ := List.mem_map.1 hb
  exact sAt_bd _ _
theorem bytesAt_congr {t s : ByteArray} {o o' n : Nat} {g : Bool} (h : ∀ k, k < n → sAt t (o + k) = sAt s (o' + k)) : bytesAt t o n g = bytesAt s o' n g := by
  refine List.map_congr_left fun i hi => ?_
  have := List.mem_range.1 hi
  refine h _ ?_
  split <;> omega
def rawV (v half : Int) : Int := if half ≤ v then v - 2 * half else v
def halfN (n : Nat) : Int := 128 * 256 ^ (n - 1)
def nB (e : Int) : Nat := ((e + 1) / 2).toNat
def bigE (e : Int) : Bool := decide (2 < e ∧ e % 2 = 0)
def rawD (e : Int) (t : ByteArray) (o : Nat) : Int := if e = 2 then sAt t o - 128 else rawV (leV (bytesAt t o (nB e) (bigE e))) (maxF e + 1)
def levD (e : Int) (t : ByteArray) (o : Nat) : Int := max (rawD e t o) (0 - maxF e)
theorem nB_bits {e : Int} (he : enc e) : bitsF e = 8 * (nB e : Nat) ∧ 1 ≤ nB e ∧ nB e ≤ 4 := by
  rcases enc_cases he with rfl | rfl | rfl | rfl | rfl | rfl | rfl | rfl <;> decide
theorem half_eq {e : Int} (he : enc e) : maxF e + 1 = halfN (nB e) := by
  rcases enc_cases he with rfl | rfl | rfl | rfl | rfl | rfl | rfl | rfl <;> decide
theorem rawD_bd {e : Int} (he : enc e) (t : ByteArray) (o : Nat) : -2147483648 ≤ rawD e t o ∧ rawD e t o ≤ maxF e := by
  have hb := sAt_bd t o
  have hm := maxF_bd e
  obtain ⟨_, hn1, hn4⟩ := nB_bits he
  unfold rawD
  by_cases h2 : e = 2
  · rw [if_pos h2]
    omega
  · rw [if_neg h2, half_eq he]
    have hm2 := half_eq he
    have hv := leV_bd (bs := bytesAt t o (nB e) (bigE e)) bytesAt_bd
    rw [bytesAt_len] at hv
    have hh : (256 : Int) ^ nB e = 2 * halfN (nB e) ∧ halfN (nB e) ≤ 2147483648 := by
      rcases (by omega : nB e = 1 ∨ nB e = 2 ∨ nB e = 3 ∨ nB e = 4) with h | h | h | h <;> rw [h] <;> decide
    unfold rawV
    split <;> omega
theorem levD_bd {e : Int} (he : enc e) (t : ByteArray) (o : Nat) : 0 - maxF e ≤ levD e t o ∧ levD e t o ≤ maxF e := by
  have := rawD_bd he t o
  have hm := maxF_bd e
  unfold levD
  omega
theorem read_c {e : Int} {t : ByteArray} (he : enc e) (ht : t.size = nB e) {H : AHeap} {K : CK} (h : K (.returned (iv (levD e t 0))) H) : callS P (fnV 65) [iv e, .string t] H K := by
  obtain ⟨_, hn1, hn4⟩ := nB_bits he
  have hL := bytesAt_len t 0 (nB e) (bigE e)
  have h00 : Value.int .i64 0 = iv (leV ((bytesAt t 0 (nB e) (bigE e)).drop (nB e - 0))) := by
    rw [Nat.sub_zero, List.drop_of_length_le (by rw [hL]; exact Nat.le_refl _)]; rfl
  have hm2 : e.tmod 2 = e % 2 := Int.tmod_eq_emod_of_nonneg (by omega)
  have hv2 : e = 2 → leV (bytesAt t 0 (nB e) (bigE e)) = sAt t 0 := fun h => by
    subst h
    simp [bytesAt, nB, bigE, leV]
  by_cases h1 : e ≤ 2
  · have hgb : bigE e = false := by unfold bigE; exact decide_eq_false (by omega)
    refine callS_walk tt_ok Try.func65 rfl (by kernel_rfl) ?_
    conv => whnf
    repeat' ((conv => whnf); first | (apply drawS_auto mixed tt_ok; (· kernel_rfl)) | apply zZ | apply yA | apply yB | ((first | apply zA | apply zC | apply zE | apply zG); (· with_reducible assumption)) | ((first | apply zB | apply zD | apply zF | apply zH); (· with_reducible assumption)) | apply zM | apply zN | apply zO | apply zP | apply zQ | apply zR | apply zS | apply zT | apply zU | (apply zV; (· omega)) | (apply zW; (· omega)) | (apply zX; (· (first | omega | (dsimp only; omega)))) | (apply zY; (try (apply zY; apply zX; (· omega))); apply zX; (· omega); apply zX; (· (first | omega | (dsimp only; omega)))) | ((first | apply yJ | apply yK | apply yL | apply yM | apply yN | apply yO); (· exact hgA); (· exact hsA)) | (apply yNP; (· exact hgA); (· exact hsA)) | ((first | apply zA | apply zC | apply zE | apply zG); (· omega)) | ((first | apply zB | apply zD | apply zF | apply zH); (· omega)) | ((first | apply zI | apply zK); (· with_reducible assumption)) | ((first | apply zJ | apply zL); (· with_reducible assumption)) | fail)
    conv => whnf
    refine loopS_mask tt_ok (fun (j : Nat) => [.p (iv e), .p (.string t), .w, .w, .w, .p (iv (leV ((bytesAt t 0 (nB e) (bigE e)).drop (nB e - j)))), .p (iv j), .w, .w, .w, .w, .w, .w, .w, .w, .w, .w, .w, .w, .w, .w, .w, .w, .w, .w, .w, .w, .w, .w, .w, .w, .w, .w, .w, .w, .w, .w, .w, .w, .w, .w, .w, .w, .w, .w, .w, .w, .w, .w, .w, .w, .w, .w, .w, .w, .w, .w]) (fun (j : Nat) => H) (fun (j : Nat) => j ≤ nB e) (fun (j : Nat) => nB e - j) (0) (by omega) ?_ (fun j hj => ?_)
    · conv => whnf
      refine weakH_of (HW.refl _) ?_
      repeat' (first | exact WT.nil | refine WT.same ?_ | refine WT.drop ?_ | refine WT.int (by omega) ?_ | refine WT.eq (by assumption) ?_ | refine WT.bl (by first | assumption | (symm; assumption)) ?_ | refine WT.vv (by assumption) ?_)
    have hbd := leV_bd (bs := (bytesAt t 0 (nB e) (bigE e)).drop (nB e - j)) fun b hb => bytesAt_bd b (List.mem_of_mem_drop hb)
    rw [List.length_drop, hL] at hbd
    have hsub : nB e - (nB e - j) = j := by omega
    rw [hsub] at hbd
    have hp : (256 : Int) ^ j ≤ 4294967296 := by
      rcases (by omega : j = 0 ∨ j = 1 ∨ j = 2 ∨ j = 3 ∨ j = 4) with rfl | rfl | rfl | rfl | rfl <;> decide
    by_cases hlt : j < nB e
    · have hs : leV ((bytesAt t 0 (nB e) (bigE e)).drop (nB e - (j + 1))) = 256 * leV ((bytesAt t 0 (nB e) (bigE e)).drop (nB e - j)) + sAt t (if bigE e = true then j else nB e - 1 - j) := by
        rw [List.drop_eq_getElem_cons (by omega : nB e - (j + 1) < (bytesAt t 0 (nB e) (bigE e)).length), leV, bytesAt_get, Nat.zero_add, (by omega : nB e - (j + 1) + 1 = nB e - j), Int.add_comm]
        congr 2
        cases bigE e with
        | true => simp only [if_true]; omega
        | false => simp only [Bool.false_eq_true, if_false]; omega
      have hb1 := sAt_bd t (if bigE e = true then j else nB e - 1 - j)
      have hb2 := sAt_bd t (nB e - 1 - j)
      have hi1 : ((t.size : Int) - 1 - (j : Int)).toNat = nB e - 1 - j := by omega
      obtain ⟨q, hq⟩ : ∃ q, (if bigE e = true then j else nB e - 1 - j) = q := ⟨_, rfl⟩
      rw [hq] at hs hb1
      simp only [hgb, if_true, Bool.false_eq_true, if_false] at hq
      subst hq
      repeat' ((conv => whnf); first | (refine intK_eq (v := sAt t (nB e - 1 - j)) ?_ ?_ ?_; (· rw [hi1]); (· omega)) | (refine intK_eq (v := sAt t j) ?_ ?_ ?_; (· rw [Int.toNat_natCast]); (· omega)) | (apply drawS_auto mixed tt_ok; (· kernel_rfl)) | apply zZ | apply yA | apply yB | ((first | apply zA | apply zC | apply zE | apply zG); (· with_reducible assumption)) | ((first | apply zB | apply zD | apply zF | apply zH); (· with_reducible assumption)) | apply zM | apply zN | apply zO | apply zP | apply zQ | apply zR | apply zS | apply zT | apply zU | (apply zV; (· omega)) | (apply zW; (· omega)) | (apply zX; (· (first | omega | (dsimp only; omega)))) | (apply zY; (try (apply zY; apply zX; (· omega))); apply zX; (· omega); apply zX; (· (first | omega | (dsimp only; omega)))) | ((first | apply yJ | apply yK | apply yL | apply yM | apply yN | apply yO); (· exact hgA); (· exact hsA)) | (apply yNP; (· exact hgA); (· exact hsA)) | ((first | apply zA | apply zC | apply zE | apply zG); (· omega)) | ((first | apply zB | apply zD | apply zF | apply zH); (· omega)) | ((first | apply zI | apply zK); (· with_reducible assumption)) | ((first | apply zJ | apply zL); (· with_reducible assumption)) | fail)
      conv => whnf
      rw [← hs]
      refine ⟨j + 1, by omega, by omega, ?_⟩
      conv => whnf
      refine weakH_of (HW.refl _) ?_
      repeat' (first | exact WT.nil | refine WT.same ?_ | refine WT.drop ?_ | refine WT.int (by omega) ?_ | refine WT.eq (by assumption) ?_ | refine WT.bl (by first | assumption | (symm; assumption)) ?_ | refine WT.vv (by assumption) ?_)
    · have hjn : j = nB e := by omega
      subst hjn
      rw [Nat.sub_self, List.drop_zero]
      rw [Nat.sub_self, List.drop_zero] at hbd
      generalize hlv : leV (bytesAt t 0 (nB e) (bigE e)) = v at *
      have hm := maxF_bd e
      unfold levD rawD rawV at h
      rw [hlv] at h
      by_cases h20 : e = 2
      · rw [if_pos h20, ← hv2 h20] at h
        repeat' ((conv => whnf); first | refine refTop_c he ?_ | (apply drawS_auto mixed tt_ok; (· kernel_rfl)) | apply zZ | apply yA | apply yB | ((first | apply zA | apply zC | apply zE | apply zG); (· with_reducible assumption)) | ((first | apply zB | apply zD | apply zF | apply zH); (· with_reducible assumption)) | apply zM | apply zN | apply zO | apply zP | apply zQ | apply zR | apply zS | apply zT | apply zU | (apply zV; (· omega)) | (apply zW; (· omega)) | (apply zX; (· (first | omega | (dsimp only; omega)))) | (apply zY; (try (apply zY; apply zX; (· omega))); apply zX; (· omega); apply zX; (· (first | omega | (dsimp only; omega)))) | ((first | apply yJ | apply yK | apply yL | apply yM | apply yN | apply yO); (· exact hgA); (· exact hsA)) | (apply yNP; (· exact hgA); (· exact hsA)) | ((first | apply zA | apply zC | apply zE | apply zG); (· omega)) | ((first | apply zB | apply zD | apply zF | apply zH); (· omega)) | ((first | apply zI | apply zK); (· with_reducible assumption)) | ((first | apply zJ | apply zL); (· with_reducible assumption)) | fail)
        conv => whnf
        exact h
      · rw [if_neg h20] at h
        by_cases hv : maxF e + 1 ≤ v
        · rw [if_pos hv] at h
          repeat' ((conv => whnf); first | refine refTop_c he ?_ | (apply drawS_auto mixed tt_ok; (· kernel_rfl)) | apply zZ | apply yA | apply yB | ((first | apply zA | apply zC | apply zE | apply zG); (· with_reducible assumption)) | ((first | apply zB | apply zD | apply zF | apply zH); (· with_reducible assumption)) | apply zM | apply zN | apply zO | apply zP | apply zQ | apply zR | apply zS | apply zT | apply zU | (apply zV; (· omega)) | (apply zW; (· omega)) | (apply zX; (· (first | omega | (dsimp only; omega)))) | (apply zY; (try (apply zY; apply zX; (· omega))); apply zX; (· omega); apply zX; (· (first | omega | (dsimp only; omega)))) | ((first | apply yJ | apply yK | apply yL | apply yM | apply yN | apply yO); (· exact hgA); (· exact hsA)) | (apply yNP; (· exact hgA); (· exact hsA)) | ((first | apply zA | apply zC | apply zE | apply zG); (· omega)) | ((first | apply zB | apply zD | apply zF | apply zH); (· omega)) | ((first | apply zI | apply zK); (· with_reducible assumption)) | ((first | apply zJ | apply zL); (· with_reducible assumption)) | fail)
          conv => whnf
          exact h
        · rw [if_neg hv] at h
          repeat' ((conv => whnf); first | refine refTop_c he ?_ | (apply drawS_auto mixed tt_ok; (· kernel_rfl)) | apply zZ | apply yA | apply yB | ((first | apply zA | apply zC | apply zE | apply zG); (· with_reducible assumption)) | ((first | apply zB | apply zD | apply zF | apply zH); (· with_reducible assumption)) | apply zM | apply zN | apply zO | apply zP | apply zQ | apply zR | apply zS | apply zT | apply zU | (apply zV; (· omega)) | (apply zW; (· omega)) | (apply zX; (· (first | omega | (dsimp only; omega)))) | (apply zY; (try (apply zY; apply zX; (· omega))); apply zX; (· omega); apply zX; (· (first | omega | (dsimp only; omega)))) | ((first | apply yJ | apply yK | apply yL | apply yM | apply yN | apply yO); (· exact hgA); (· exact hsA)) | (apply yNP; (· exact hgA); (· exact hsA)) | ((first | apply zA | apply zC | apply zE | apply zG); (· omega)) | ((first | apply zB | apply zD | apply zF | apply zH); (· omega)) | ((first | apply zI | apply zK); (· with_reducible assumption)) | ((first | apply zJ | apply zL); (· with_reducible assumption)) | fail)
          conv => whnf
          exact h
  · by_cases h2 : e % 2 = 0
    · have hgb : bigE e = true := by unfold bigE; exact decide_eq_true (by omega)
      have hm3 : e.tmod 2 = 0 := by omega
      refine callS_walk tt_ok Try.func65 rfl (by kernel_rfl) ?_
      conv => whnf
      repeat' ((conv => whnf); first | (apply drawS_auto mixed tt_ok; (· kernel_rfl)) | apply zZ | apply yA | apply yB | ((first | apply zA | apply zC | apply zE | apply zG); (· with_reducible assumption)) | ((first | apply zB | apply zD | apply zF | apply zH); (· with_reducible assumption)) | apply zM | apply zN | apply zO | apply zP | apply zQ | apply zR | apply zS | apply zT | apply zU | (apply zV; (· omega)) | (apply zW; (· omega)) | (apply zX; (· (first | omega | (dsimp only; omega)))) | (apply zY; (try (apply zY; apply zX; (· omega))); apply zX; (· omega); apply zX; (· (first | omega | (dsimp only; omega)))) | ((first | apply yJ | apply yK | apply yL | apply yM | apply yN | apply yO); (· exact hgA); (· exact hsA)) | (apply yNP; (· exact hgA); (· exact hsA)) | ((first | apply zA | apply zC | apply zE | apply zG); (· omega)) | ((first | apply zB | apply zD | apply zF | apply zH); (· omega)) | ((first | apply zI | apply zK); (· with_reducible assumption)) | ((first | apply zJ | apply zL); (· with_reducible assumption)) | fail)
      conv => whnf
      refine loopS_mask tt_ok (fun (j : Nat) => [.p (iv e), .p (.string t), .w, .w, .w, .p (iv (leV ((bytesAt t 0 (nB e) (bigE e)).drop (nB e - j)))), .p (iv j), .w, .w, .w, .w, .w, .w, .w, .w, .w, .w, .w, .w, .w, .w, .w, .w, .w, .w, .w, .w, .w, .w, .w, .w, .w, .w, .w, .w, .w, .w, .w, .w, .w, .w, .w, .w, .w, .w, .w, .w, .w, .w, .w, .w, .w, .w, .w, .w, .w, .w]) (fun (j : Nat) => H) (fun (j : Nat) => j ≤ nB e) (fun (j : Nat) => nB e - j) (0) (by omega) ?_ (fun j hj => ?_)
      · conv => whnf
        refine weakH_of (HW.refl _) ?_
        repeat' (first | exact WT.nil | refine WT.same ?_ | refine WT.drop ?_ | refine WT.int (by omega) ?_ | refine WT.eq (by assumption) ?_ | refine WT.bl (by first | assumption | (symm; assumption)) ?_ | refine WT.vv (by assumption) ?_)
      have hbd := leV_bd (bs := (bytesAt t 0 (nB e) (bigE e)).drop (nB e - j)) fun b hb => bytesAt_bd b (List.mem_of_mem_drop hb)
      rw [List.length_drop, hL] at hbd
      have hsub : nB e - (nB e - j) = j := by omega
      rw [hsub] at hbd
      have hp : (256 : Int) ^ j ≤ 4294967296 := by
        rcases (by omega : j = 0 ∨ j = 1 ∨ j = 2 ∨ j = 3 ∨ j = 4) with rfl | rfl | rfl | rfl | rfl <;> decide
      by_cases hlt : j < nB e
      · have hs : leV ((bytesAt t 0 (nB e) (bigE e)).drop (nB e - (j + 1))) = 256 * leV ((bytesAt t 0 (nB e) (bigE e)).drop (nB e - j)) + sAt t (if bigE e = true then j else nB e - 1 - j) := by
          rw [List.drop_eq_getElem_cons (by omega : nB e - (j + 1) < (bytesAt t 0 (nB e) (bigE e)).length), leV, bytesAt_get, Nat.zero_add, (by omega : nB e - (j + 1) + 1 = nB e - j), Int.add_comm]
          congr 2
          cases bigE e with
          | true => simp only [if_true]; omega
          | false => simp only [Bool.false_eq_true, if_false]; omega
        have hb1 := sAt_bd t (if bigE e = true then j else nB e - 1 - j)
        have hb2 := sAt_bd t (nB e - 1 - j)
        have hi1 : ((t.size : Int) - 1 - (j : Int)).toNat = nB e - 1 - j := by omega
        obtain ⟨q, hq⟩ : ∃ q, (if bigE e = true then j else nB e - 1 - j) = q := ⟨_, rfl⟩
        rw [hq] at hs hb1
        simp only [hgb, if_true, Bool.false_eq_true, if_false] at hq
        subst hq
        repeat' ((conv => whnf); first | (refine intK_eq (v := sAt t (nB e - 1 - j)) ?_ ?_ ?_; (· rw [hi1]); (· omega)) | (refine intK_eq (v := sAt t j) ?_ ?_ ?_; (· rw [Int.toNat_natCast]); (· omega)) | (apply drawS_auto mixed tt_ok; (· kernel_rfl)) | apply zZ | apply yA | apply yB | ((first | apply zA | apply zC | apply zE | apply zG); (· with_reducible assumption)) | ((first | apply zB | apply zD | apply zF | apply zH); (· with_reducible assumption)) | apply zM | apply zN | apply zO | apply zP | apply zQ | apply zR | apply zS | apply zT | apply zU | (apply zV; (· omega)) | (apply zW; (· omega)) | (apply zX; (· (first | omega | (dsimp only; omega)))) | (apply zY; (try (apply zY; apply zX; (· omega))); apply zX; (· omega); apply zX; (· (first | omega | (dsimp only; omega)))) | ((first | apply yJ | apply yK | apply yL | apply yM | apply yN | apply yO); (· exact hgA); (· exact hsA)) | (apply yNP; (· exact hgA); (· exact hsA)) | ((first | apply zA | apply zC | apply zE | apply zG); (· omega)) | ((first | apply zB | apply zD | apply zF | apply zH); (· omega)) | ((first | apply zI | apply zK); (· with_reducible assumption)) | ((first | apply zJ | apply zL); (· with_reducible assumption)) | fail)
        conv => whnf
        rw [← hs]
        refine ⟨j + 1, by omega, by omega, ?_⟩
        conv => whnf
        refine weakH_of (HW.refl _) ?_
        repeat' (first | exact WT.nil | refine WT.same ?_ | refine WT.drop ?_ | refine WT.int (by omega) ?_ | refine WT.eq (by assumption) ?_ | refine WT.bl (by first | assumption | (symm; assumption)) ?_ | refine WT.vv (by assumption) ?_)
      · have hjn : j = nB e := by omega
        subst hjn
        rw [Nat.sub_self, List.drop_zero]
        rw [Nat.sub_self, List.drop_zero] at hbd
        generalize hlv : leV (bytesAt t 0 (nB e) (bigE e)) = v at *
        have hm := maxF_bd e
        unfold levD rawD rawV at h
        rw [hlv] at h
        have h20 : ¬ e = 2 := by omega
        rw [if_neg h20] at h
        by_cases hv : maxF e + 1 ≤ v
        · rw [if_pos hv] at h
          repeat' ((conv => whnf); first | refine refTop_c he ?_ | (apply drawS_auto mixed tt_ok; (· kernel_rfl)) | apply zZ | apply yA | apply yB | ((first | apply zA | apply zC | apply zE | apply zG); (· with_reducible assumption)) | ((first | apply zB | apply zD | apply zF | apply zH); (· with_reducible assumption)) | apply zM | apply zN | apply zO | apply zP | apply zQ | apply zR | apply zS | apply zT | apply zU | (apply zV; (· omega)) | (apply zW; (· omega)) | (apply zX; (· (first | omega | (dsimp only; omega)))) | (apply zY; (try (apply zY; apply zX; (· omega))); apply zX; (· omega); apply zX; (· (first | omega | (dsimp only; omega)))) | ((first | apply yJ | apply yK | apply yL | apply yM | apply yN | apply yO); (· exact hgA); (· exact hsA)) | (apply yNP; (· exact hgA); (· exact hsA)) | ((first | apply zA | apply zC | apply zE | apply zG); (· omega)) | ((first | apply zB | apply zD | apply zF | apply zH); (· omega)) | ((first | apply zI | apply zK); (· with_reducible assumption)) | ((first | apply zJ | apply zL); (· with_reducible assumption)) | fail)
          conv => whnf
          exact h
        · rw [if_neg hv] at h
          repeat' ((conv => whnf); first | refine refTop_c he ?_ | (apply drawS_auto mixed tt_ok; (· kernel_rfl)) | apply zZ | apply yA | apply yB | ((first | apply zA | apply zC | apply zE | apply zG); (· with_reducible assumption)) | ((first | apply zB | apply zD | apply zF | apply zH); (· with_reducible assumption)) | apply zM | apply zN | apply zO | apply zP | apply zQ | apply zR | apply zS | apply zT | apply zU | (apply zV; (· omega)) | (apply zW; (· omega)) | (apply zX; (· (first | omega | (dsimp only; omega)))) | (apply zY; (try (apply zY; apply zX; (· omega))); apply zX; (· omega); apply zX; (· (first | omega | (dsimp only; omega)))) | ((first | apply yJ | apply yK | apply yL | apply yM | apply yN | apply yO); (· exact hgA); (· exact hsA)) | (apply yNP; (· exact hgA); (· exact hsA)) | ((first | apply zA | apply zC | apply zE | apply zG); (· omega)) | ((first | apply zB | apply zD | apply zF | apply zH); (· omega)) | ((first | apply zI | apply zK); (· with_reducible assumption)) | ((first | apply zJ | apply zL); (· with_reducible assumption)) | fail)
          conv => whnf
          exact h
    · have hgb : bigE e = false := by unfold bigE; exact decide_eq_false (by omega)
      have hm3 : e.tmod 2 = 1 := by omega
      refine callS_walk tt_ok Try.func65 rfl (by kernel_rfl) ?_
      conv => whnf
      repeat' ((conv => whnf); first | (apply drawS_auto mixed tt_ok; (· kernel_rfl)) | apply zZ | apply yA | apply yB | ((first | apply zA | apply zC | apply zE | apply zG); (· with_reducible assumption)) | ((first | apply zB | apply zD | apply zF | apply zH); (· with_reducible assumption)) | apply zM | apply zN | apply zO | apply zP | apply zQ | apply zR | apply zS | apply zT | apply zU | (apply zV; (· omega)) | (apply zW; (· omega)) | (apply zX; (· (first | omega | (dsimp only; omega)))) | (apply zY; (try (apply zY; apply zX; (· omega))); apply zX; (· omega); apply zX; (· (first | omega | (dsimp only; omega)))) | ((first | apply yJ | apply yK | apply yL | apply yM | apply yN | apply yO); (· exact hgA); (· exact hsA)) | (apply yNP; (· exact hgA); (· exact hsA)) | ((first | apply zA | apply zC | apply zE | apply zG); (· omega)) | ((first | apply zB | apply zD | apply zF | apply zH); (· omega)) | ((first | apply zI | apply zK); (· with_reducible assumption)) | ((first | apply zJ | apply zL); (· with_reducible assumption)) | fail)
      conv => whnf
      refine loopS_mask tt_ok (fun (j : Nat) => [.p (iv e), .p (.string t), .w, .w, .w, .p (iv (leV ((bytesAt t 0 (nB e) (bigE e)).drop (nB e - j)))), .p (iv j), .w, .w, .w, .w, .w, .w, .w, .w, .w, .w, .w, .w, .w, .w, .w, .w, .w, .w, .w, .w, .w, .w, .w, .w, .w, .w, .w, .w, .w, .w, .w, .w, .w, .w, .w, .w, .w, .w, .w, .w, .w, .w, .w, .w, .w, .w, .w, .w, .w, .w]) (fun (j : Nat) => H) (fun (j : Nat) => j ≤ nB e) (fun (j : Nat) => nB e - j) (0) (by omega) ?_ (fun j hj => ?_)
      · conv => whnf
        refine weakH_of (HW.refl _) ?_
        repeat' (first | exact WT.nil | refine WT.same ?_ | refine WT.drop ?_ | refine WT.int (by omega) ?_ | refine WT.eq (by assumption) ?_ | refine WT.bl (by first | assumption | (symm; assumption)) ?_ | refine WT.vv (by assumption) ?_)
      have hbd := leV_bd (bs := (bytesAt t 0 (nB e) (bigE e)).drop (nB e - j)) fun b hb => bytesAt_bd b (List.mem_of_mem_drop hb)
      rw [List.length_drop, hL] at hbd
      have hsub : nB e - (nB e - j) = j := by omega
      rw [hsub] at hbd
      have hp : (256 : Int) ^ j ≤ 4294967296 := by
        rcases (by omega : j = 0 ∨ j = 1 ∨ j = 2 ∨ j = 3 ∨ j = 4) with rfl | rfl | rfl | rfl | rfl <;> decide
      by_cases hlt : j < nB e
      · have hs : leV ((bytesAt t 0 (nB e) (bigE e)).drop (nB e - (j + 1))) = 256 * leV ((bytesAt t 0 (nB e) (bigE e)).drop (nB e - j)) + sAt t (if bigE e = true then j else nB e - 1 - j) := by
          rw [List.drop_eq_getElem_cons (by omega : nB e - (j + 1) < (bytesAt t 0 (nB e) (bigE e)).length), leV, bytesAt_get, Nat.zero_add, (by omega : nB e - (j + 1) + 1 = nB e - j), Int.add_comm]
          congr 2
          cases bigE e with
          | true => simp only [if_true]; omega
          | false => simp only [Bool.false_eq_true, if_false]; omega
        have hb1 := sAt_bd t (if bigE e = true then j else nB e - 1 - j)
        have hb2 := sAt_bd t (nB e - 1 - j)
        have hi1 : ((t.size : Int) - 1 - (j : Int)).toNat = nB e - 1 - j := by omega
        obtain ⟨q, hq⟩ : ∃ q, (if bigE e = true then j else nB e - 1 - j) = q := ⟨_, rfl⟩
        rw [hq] at hs hb1
        simp only [hgb, if_true, Bool.false_eq_true, if_false] at hq
        subst hq
        repeat' ((conv => whnf); first | (refine intK_eq (v := sAt t (nB e - 1 - j)) ?_ ?_ ?_; (· rw [hi1]); (· omega)) | (refine intK_eq (v := sAt t j) ?_ ?_ ?_; (· rw [Int.toNat_natCast]); (· omega)) | (apply drawS_auto mixed tt_ok; (· kernel_rfl)) | apply zZ | apply yA | apply yB | ((first | apply zA | apply zC | apply zE | apply zG); (· with_reducible assumption)) | ((first | apply zB | apply zD | apply zF | apply zH); (· with_reducible assumption)) | apply zM | apply zN | apply zO | apply zP | apply zQ | apply zR | apply zS | apply zT | apply zU | (apply zV; (· omega)) | (apply zW; (· omega)) | (apply zX; (· (first | omega | (dsimp only; omega)))) | (apply zY; (try (apply zY; apply zX; (· omega))); apply zX; (· omega); apply zX; (· (first | omega | (dsimp only; omega)))) | ((first | apply yJ | apply yK | apply yL | apply yM | apply yN | apply yO); (· exact hgA); (· exact hsA)) | (apply yNP; (· exact hgA); (· exact hsA)) | ((first | apply zA | apply zC | apply zE | apply zG); (· omega)) | ((first | apply zB | apply zD | apply zF | apply zH); (· omega)) | ((first | apply zI | apply zK); (· with_reducible assumption)) | ((first | apply zJ | apply zL); (· with_reducible assumption)) | fail)
        conv => whnf
        rw [← hs]
        refine ⟨j + 1, by omega, by omega, ?_⟩
        conv => whnf
        refine weakH_of (HW.refl _) ?_
        repeat' (first | exact WT.nil | refine WT.same ?_ | refine WT.drop ?_ | refine WT.int (by omega) ?_ | refine WT.eq (by assumption) ?_ | refine WT.bl (by first | assumption | (symm; assumption)) ?_ | refine WT.vv (by assumption) ?_)
      · have hjn : j = nB e := by omega
        subst hjn
        rw [Nat.sub_self, List.drop_zero]
        rw [Nat.sub_self, List.drop_zero] at hbd
        generalize hlv : leV (bytesAt t 0 (nB e) (bigE e)) = v at *
        have hm := maxF_bd e
        unfold levD rawD rawV at h
        rw [hlv] at h
        have h20 : ¬ e = 2 := by omega
        rw [if_neg h20] at h
        by_cases hv : maxF e + 1 ≤ v
        · rw [if_pos hv] at h
          repeat' ((conv => whnf); first | refine refTop_c he ?_ | (apply drawS_auto mixed tt_ok; (· kernel_rfl)) | apply zZ | apply yA | apply yB | ((first | apply zA | apply zC | apply zE | apply zG); (· with_reducible assumption)) | ((first | apply zB | apply zD | apply zF | apply zH); (· with_reducible assumption)) | apply zM | apply zN | apply zO | apply zP | apply zQ | apply zR | apply zS | apply zT | apply zU | (apply zV; (· omega)) | (apply zW; (· omega)) | (apply zX; (· (first | omega | (dsimp only; omega)))) | (apply zY; (try (apply zY; apply zX; (· omega))); apply zX; (· omega); apply zX; (· (first | omega | (dsimp only; omega)))) | ((first | apply yJ | apply yK | apply yL | apply yM | apply yN | apply yO); (· exact hgA); (· exact hsA)) | (apply yNP; (· exact hgA); (· exact hsA)) | ((first | apply zA | apply zC | apply zE | apply zG); (· omega)) | ((first | apply zB | apply zD | apply zF | apply zH); (· omega)) | ((first | apply zI | apply zK); (· with_reducible assumption)) | ((first | apply zJ | apply zL); (· with_reducible assumption)) | fail)
          conv => whnf
          exact h
        · rw [if_neg hv] at h
          repeat' ((conv => whnf); first | refine refTop_c he ?_ | (apply drawS_auto mixed tt_ok; (· kernel_rfl)) | apply zZ | apply yA | apply yB | ((first | apply zA | apply zC | apply zE | apply zG); (· with_reducible assumption)) | ((first | apply zB | apply zD | apply zF | apply zH); (· with_reducible assumption)) | apply zM | apply zN | apply zO | apply zP | apply zQ | apply zR | apply zS | apply zT | apply zU | (apply zV; (· omega)) | (apply zW; (· omega)) | (apply zX; (· (first | omega | (dsimp only; omega)))) | (apply zY; (try (apply zY; apply zX; (· omega))); apply zX; (· omega); apply zX; (· (first | omega | (dsimp only; omega)))) | ((first | apply yJ | apply yK | apply yL | apply yM | apply yN | apply yO); (· exact hgA); (· exact hsA)) | (apply yNP; (· exact hgA); (· exact hsA)) | ((first | apply zA | apply zC | apply zE | apply zG); (· omega)) | ((first | apply zB | apply zD | apply zF | apply zH); (· omega)) | ((first | apply zI | apply zK); (· with_reducible assumption)) | ((first | apply zJ | apply zL); (· with_reducible assumption)) | fail)
          conv => whnf
          exact h
end Go.Abs
