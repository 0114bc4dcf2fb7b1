/- What joining computes, and the contract of the reference's Join. -/
import Derived.Test.YthjmijjppaebgaaDD04
set_option linter.all false
set_option maxHeartbeats 1000000
set_option maxRecDepth 20000
namespace Go.Abs
open Go Go.Proofs

def jR (l : List (List (List Int))) (k c : Nat) : List Int := ((l.take k).map fun b => b.getD c []).flatten
def jM (l : List (List (List Int))) (k : Nat) : List (List Int) := (List.range (l.headD []).length).map (jR l k)
def jT (l : List (List (List Int))) (k : Nat) : Nat := ((l.take k).map framesB).sum
def joinE (l : List (List (List Int))) : Int := if l.all blockB = true then if l = [] then 11 else if l.all (fun b => b.length == (l.headD []).length) = true then if jT l l.length ≤ 4096 then 0 else 4 else 11 else 1
def joinV (l : List (List (List Int))) : List (List Int) := if joinE l = 0 then jM l l.length else []
theorem jM_len (l : List (List (List Int))) (k : Nat) : (jM l k).length = (l.headD []).length := by simp [jM]
theorem jM_get {l : List (List (List Int))} {k c : Nat} (h : c < (jM l k).length) : (jM l k)[c] = jR l k c := by simp [jM]
theorem jR_succ {l : List (List (List Int))} {k c : Nat} (h : k < l.length) : jR l (k + 1) c = jR l k c ++ l[k].getD c [] := by
  unfold jR
  rw [take_succ_of h, List.map_append, List.flatten_append]
  simp
theorem jT_succ {l : List (List (List Int))} {k : Nat} (h : k < l.length) : jT l (k + 1) = jT l k + framesB l[k] := by
  unfold jT
  rw [take_succ_of h, List.map_append, List.sum_append]
  simp
theorem jT_mono {l : List (List (List Int))} : ∀ {j k : Nat}, j ≤ k → k ≤ l.length → jT l j ≤ jT l k := by
  intro j k h
  induction h with
  | refl => intro _; exact Nat.le_refl _
  | @step k _ ih =>
    intro hk
    rw [jT_succ (by omega)]
    have := ih (by omega)
    omega
theorem jR_zero (l : List (List (List Int))) (c : Nat) : jR l 0 c = [] := rfl
theorem jM_beh {l : List (List (List Int))} {k : Nat} (h : k < l.length) (hn : l[k].length = (l.headD []).length) : behM (jM l k) l[k] = jM l (k + 1) := by
  apply List.ext_getElem
  · rw [behM_len (by rw [hn, jM_len]), jM_len, jM_len]
  · intro c h1 h2
    have hc : c < (l.headD []).length := by rw [jM_len] at h2; exact h2
    have hck : c < l[k].length := by omega
    rw [behM_get (by rw [jM_len]; exact hc) (by omega), jM_get, jM_get, jR_succ h]
    simp [List.getD_eq_getElem?_getD, hck]
theorem headD_at {l : List (List (List Int))} (h : 0 < l.length) : l.headD [] = l[0] := by cases l with
  | nil => simp at h
  | cons x xs => rfl
theorem jM_one {l : List (List (List Int))} (h : 0 < l.length) (hv : blockB l[0] = true) : cutM 0 (framesB l[0]) l[0] = jM l 1 := by
  obtain ⟨hC, hN, hR⟩ := cut_rows hv
  apply List.ext_getElem
  · rw [cutM_len, jM_len, headD_at h]
  · intro c h1 h2
    rw [cutM_len] at h1
    rw [cutM_get h1, jM_get, jR_succ h, jR_zero, List.nil_append]
    have := (hR _ (List.getElem_mem h1)).1
    unfold cutR
    rw [List.drop_zero, List.take_of_length_le (by omega)]
    simp [List.getD_eq_getElem?_getD, h1]
def jOk (l : List (List (List Int))) : Prop := ∀ b ∈ l, blockB b = true ∧ b.length = (l.headD []).length
theorem jR_ok {l : List (List (List Int))} (h : jOk l) {c : Nat} (hc : c < (l.headD []).length) : ∀ k, k ≤ l.length → (jR l k c).length = jT l k ∧ ∀ x ∈ jR l k c, -8388607 ≤ x ∧ x ≤ 8388607
  | 0, _ => ⟨rfl, fun x hx => by simp [jR_zero] at hx⟩
  | k + 1, hk => by
    obtain ⟨h1, h2⟩ := jR_ok h hc k (by omega)
    obtain ⟨hv, hn⟩ := h l[k] (List.getElem_mem (by omega))
    obtain ⟨hC, hN, hR⟩ := cut_rows hv
    have hck : c < l[k].length := by omega
    have hg : l[k].getD c [] = l[k][c] := by simp [List.getD_eq_getElem?_getD, hck]
    have hr := hR l[k][c] (List.getElem_mem _)
    rw [jR_succ (by omega), hg, jT_succ (by omega)]
    refine ⟨by rw [List.length_append, h1, hr.1], fun x hx => ?_⟩
    rcases List.mem_append.1 hx with hx | hx
    · exact h2 x hx
    · exact hr.2 x hx
theorem jM_rows {l : List (List (List Int))} (h : jOk l) {k : Nat} (hk : k ≤ l.length) : ∀ r ∈ jM l k, r.length = jT l k ∧ ∀ x ∈ r, -8388607 ≤ x ∧ x ≤ 8388607 := fun r hr => by
  obtain ⟨c, hc, rfl⟩ := List.mem_map.1 hr
  exact jR_ok h (List.mem_range.1 hc) k hk
theorem behindF_c {a a2 : Option Addr} {c c2 n n2 : Nat} {l : List (List (List Int))} {k : Nat} {H : AHeap} {K : CK} (hj : jOk l) (hk : k < l.length) (hT : jT l (k + 1) ≤ 1000000) (hn0 : n = (l.headD []).length) (hn2 : n2 = l[k].length) (hx : Mat H a (jM l k)) (hy : Mat H a2 l[k])
    (h : ∀ H' p, H.le H' → Mat H' p (jM l (k + 1)) → K (.returned (.slice p n n)) H') : callS P (fnV 74) [.slice a n c, .slice a2 n2 c2] H K := by
  obtain ⟨hv, hn⟩ := hj l[k] (List.getElem_mem hk)
  obtain ⟨hC, hN, hR⟩ := cut_rows hv
  have hml := jM_len l k
  have hT1 := jT_succ hk
  have hh8 : (l.headD []).length ≤ 8 := by omega
  subst hn0
  rw [← hml] at h ⊢
  refine callS_post ?_
  refine behindO_c (B := 0) hx hy (by omega) hn2 (by omega) (fun r hr => by rw [(jM_rows hj (Nat.le_of_lt hk) r hr).1]; omega) (fun r hr => by rw [(hR r hr).1]; omega) (fun H' o rs hle hom => ⟨_, HW.fz _ H.size, h _ _ (AHeap.le.fz hle (Nat.le_refl _)) ?_⟩)
  rw [jM_beh hk hn] at hom
  refine hom.fz (Nat.le_refl _) (by rw [jM_len]; exact Nat.le_trans hh8 (by unfold maxN; omega)) fun r hr => ?_
  obtain ⟨h1, h2⟩ := jM_rows (k := k + 1) hj hk r hr
  exact ⟨by rw [h1]; unfold maxN; omega, fun x hx => by have := h2 x hx; unfold inR; omega⟩
theorem joinE_zero {l : List (List (List Int))} (h : joinE l = 0) : jOk l ∧ 0 < l.length ∧ jT l l.length ≤ 4096 := by
  unfold joinE at h
  by_cases h1 : l.all blockB = true
  · rw [if_pos h1] at h
    by_cases h2 : l = []
    · rw [if_pos h2] at h; omega
    · rw [if_neg h2] at h
      by_cases h3 : l.all (fun b => b.length == (l.headD []).length) = true
      · rw [if_pos h3] at h
        by_cases h4 : jT l l.length ≤ 4096
        · refine ⟨fun b hb => ⟨List.all_eq_true.1 h1 b hb, by simpa using List.all_eq_true.1 h3 b hb⟩, by cases l with | nil => exact absurd rfl h2 | cons _ _ => simp, h4⟩
        · rw [if_neg h4] at h; omega
      · rw [if_neg h3] at h; omega
  · rw [if_neg h1] at h; omega
/-- where joining fails -/
theorem joinE_bad1 {l : List (List (List Int))} {k : Nat} (hk : k < l.length) (h : blockB l[k] = false) : joinE l = 1 := by
  unfold joinE
  rw [if_neg]
  intro h1
  have := List.all_eq_true.1 h1 l[k] (List.getElem_mem hk)
  rw [h] at this; cases this
theorem all_valid {l : List (List (List Int))} (h : ∀ j (hj : j < l.length), blockB l[j] = true) : l.all blockB = true := List.all_eq_true.2 fun b hb => by
  obtain ⟨j, hj, rfl⟩ := List.mem_iff_getElem.1 hb
  exact h j hj
theorem joinE_len {l : List (List (List Int))} {k : Nat} (ha : l.all blockB = true) (hk : k < l.length) (h : l[k].length ≠ (l.headD []).length) : joinE l = 11 := by
  unfold joinE
  have hne : l ≠ [] := fun e => by subst e; simp at hk
  rw [if_pos ha, if_neg hne, if_neg]
  intro h1
  have := List.all_eq_true.1 h1 l[k] (List.getElem_mem hk)
  simp at this
  exact h (by simpa using this)
theorem joinE_empty : joinE [] = 11 := rfl
theorem joinE_fin {l : List (List (List Int))} (ha : l.all blockB = true) (h0 : 0 < l.length) (hl : ∀ j (hj : j < l.length), l[j].length = (l.headD []).length) : joinE l = if jT l l.length ≤ 4096 then 0 else 4 := by
  unfold joinE
  have hne : l ≠ [] := fun e => by subst e; simp at h0
  rw [if_pos ha, if_neg hne, if_pos]
  refine List.all_eq_true.2 fun b hb => ?_
  obtain ⟨j, hj, rfl⟩ := List.mem_iff_getElem.1 hb
  simpa using hl j hj
theorem jOk_of {l : List (List (List Int))} (ha : l.all blockB = true) (hl : ∀ j (hj : j < l.length), l[j].length = (l.headD []).length) : jOk l := fun b hb => by
  obtain ⟨j, hj, rfl⟩ := List.mem_iff_getElem.1 hb
  exact ⟨List.all_eq_true.1 ha _ hb, hl j hj⟩
theorem jT_bd {l : List (List (List Int))} (ha : l.all blockB = true) : ∀ k, k ≤ l.length → jT l k ≤ 4096 * k
  | 0, _ => Nat.le_refl _
  | k + 1, hk => by
    have h1 := jT_bd ha k (by omega)
    obtain ⟨_, hN, _⟩ := cut_rows (List.all_eq_true.1 ha l[k] (List.getElem_mem (by omega)))
    rw [jT_succ (by omega)]
    omega
theorem refJoin_c {a : Option Addr} {c : Nat} {l : List (List (List Int))} {H : AHeap} {K : CK} (hl30 : l.length ≤ 30) (hl : Bls H a l)
    (h : ∀ H' p, H.le H' → Mat H' p (joinV l) → K (.returned (.tuple #[.slice p (joinV l).length (joinV l).length, iv (joinE l)])) H') : callS P (fnV 36) [.slice a l.length c] H K := by
  have bad_ : ∀ ec, joinE l = ec → ec ≠ 0 → K (.returned (.tuple #[.slice none 0 0, iv ec])) H := fun ec he hne => by
    have hV : joinV l = [] := by unfold joinV; rw [he, if_neg hne]
    have := h H none (AHeap.le.refl _) (by rw [hV]; exact .nil)
    rw [hV, he] at this; exact this
  refine callS_walk tt_ok Try.func36 rfl (by kernel_rfl) ?_
  conv => whnf
  repeat' ((conv => whnf); first | ((first | (apply vB; (case h => with_reducible assumption)) | (apply vA; (case h => with_reducible assumption)) | (apply vC; (case h => with_reducible assumption))); (case hk => exact kpA); (case he => omega)) | ((first | (apply vI; (case h => with_reducible assumption)) | (apply vG; (case h => with_reducible assumption)) | (apply vK; (case h => with_reducible assumption))); (case hk => exact kpA); (case he => omega); (case hp => omega); (case' g => intro hr_ hc_)) | ((first | (apply vJ; (case h => with_reducible assumption)) | (apply vH; (case h => with_reducible assumption)) | (apply vL; (case h => with_reducible assumption))); (case hk => exact kpA); (case he => omega); (case' g => intro hr_ hc_)) | (apply drawS_auto mixed tt_ok; (· kernel_rfl)) | apply zZ | apply yA | apply yB | ((first | apply zA | apply zC | apply zE | apply zG); (· with_reducible assumption)) | ((first | apply zB | apply zD | apply zF | apply zH); (· with_reducible assumption)) | apply zM | apply zN | apply zO | apply zP | apply zQ | apply zR | apply zS | apply zT | apply zU | (apply zV; (· omega)) | (apply zW; (· omega)) | (apply zX; (· (first | omega | (dsimp only; omega)))) | (apply zY; (try (apply zY; apply zX; (· omega))); apply zX; (· omega); apply zX; (· (first | omega | (dsimp only; omega)))) | ((first | apply yJ | apply yK | apply yL | apply yM | apply yN | apply yO); (· exact hgA); (· exact hsA)) | (apply yNP; (· exact hgA); (· exact hsA)) | ((first | apply zA | apply zC | apply zE | apply zG); (· omega)) | ((first | apply zB | apply zD | apply zF | apply zH); (· omega)) | ((first | apply zI | apply zK); (· with_reducible assumption)) | ((first | apply zJ | apply zL); (· with_reducible assumption)) | fail)
  conv => whnf
  refine loopS_mask tt_ok (fun (k : Nat) => [.k, .w, .w, .w, .p (iv k), .w, .w, .w, .w, .w, .w, .w, .w, .w, .w, .w, .w, .w, .w, .w, .w, .w, .w, .w, .w, .w, .w, .w, .w, .w, .w, .w, .w, .w, .w, .w, .w, .w, .w, .w, .w, .w, .w, .w, .w, .w, .w, .w, .w, .w, .w, .w, .w, .w, .w, .w, .w, .w, .w, .w, .w, .w, .w, .w, .w, .w, .w, .w, .w, .w, .w, .w, .w, .w]) (fun (k : Nat) => H) (fun (k : Nat) => k ≤ l.length ∧ ∀ j (hj : j < l.length), j < k → blockB l[j] = true) (fun (k : Nat) => l.length - k) (0) (⟨by omega, fun j hj h1 => absurd h1 (Nat.not_lt_zero _)⟩) ?_ (fun k hk => ?_)
  · conv => whnf
    refine weakH_of (HW.refl _) ?_
    repeat' (first | exact WT.nil | refine WT.same ?_ | refine WT.drop ?_ | refine WT.int (by omega) ?_ | refine WT.eq (by assumption) ?_ | refine WT.bl (by first | assumption | (symm; assumption)) ?_ | refine WT.vv (by assumption) ?_)
  obtain ⟨hk, hvk⟩ := hk
  by_cases hkl : k < l.length
  · obtain ⟨i0, off, rfl⟩ := hl.at hkl
    cases hb : blockB l[k] with
    | false =>
      repeat' ((conv => whnf); first | (apply refValid_v; (· exact mtA); (· with_reducible assumption)) | ((first | (apply vB; (case h => with_reducible assumption)) | (apply vA; (case h => with_reducible assumption)) | (apply vC; (case h => with_reducible assumption))); (case hk => exact kpA); (case he => omega)) | ((first | (apply vI; (case h => with_reducible assumption)) | (apply vG; (case h => with_reducible assumption)) | (apply vK; (case h => with_reducible assumption))); (case hk => exact kpA); (case he => omega); (case hp => omega); (case' g => intro hr_ hc_)) | ((first | (apply vJ; (case h => with_reducible assumption)) | (apply vH; (case h => with_reducible assumption)) | (apply vL; (case h => with_reducible assumption))); (case hk => exact kpA); (case he => omega); (case' g => intro hr_ hc_)) | (apply drawS_auto mixed tt_ok; (· kernel_rfl)) | apply zZ | apply yA | apply yB | ((first | apply zA | apply zC | apply zE | apply zG); (· with_reducible assumption)) | ((first | apply zB | apply zD | apply zF | apply zH); (· with_reducible assumption)) | apply zM | apply zN | apply zO | apply zP | apply zQ | apply zR | apply zS | apply zT | apply zU | (apply zV; (· omega)) | (apply zW; (· omega)) | (apply zX; (· (first | omega | (dsimp only; omega)))) | (apply zY; (try (apply zY; apply zX; (· omega))); apply zX; (· omega); apply zX; (· (first | omega | (dsimp only; omega)))) | ((first | apply yJ | apply yK | apply yL | apply yM | apply yN | apply yO); (· exact hgA); (· exact hsA)) | (apply yNP; (· exact hgA); (· exact hsA)) | ((first | apply zA | apply zC | apply zE | apply zG); (· omega)) | ((first | apply zB | apply zD | apply zF | apply zH); (· omega)) | ((first | apply zI | apply zK); (· with_reducible assumption)) | ((first | apply zJ | apply zL); (· with_reducible assumption)) | fail)
      conv => whnf
      exact bad_ 1 (joinE_bad1 hkl hb) (by omega)
    | true =>
      repeat' ((conv => whnf); first | (apply refValid_v; (· exact mtA); (· with_reducible assumption)) | ((first | (apply vB; (case h => with_reducible assumption)) | (apply vA; (case h => with_reducible assumption)) | (apply vC; (case h => with_reducible assumption))); (case hk => exact kpA); (case he => omega)) | ((first | (apply vI; (case h => with_reducible assumption)) | (apply vG; (case h => with_reducible assumption)) | (apply vK; (case h => with_reducible assumption))); (case hk => exact kpA); (case he => omega); (case hp => omega); (case' g => intro hr_ hc_)) | ((first | (apply vJ; (case h => with_reducible assumption)) | (apply vH; (case h => with_reducible assumption)) | (apply vL; (case h => with_reducible assumption))); (case hk => exact kpA); (case he => omega); (case' g => intro hr_ hc_)) | (apply drawS_auto mixed tt_ok; (· kernel_rfl)) | apply zZ | apply yA | apply yB | ((first | apply zA | apply zC | apply zE | apply zG); (· with_reducible assumption)) | ((first | apply zB | apply zD | apply zF | apply zH); (· with_reducible assumption)) | apply zM | apply zN | apply zO | apply zP | apply zQ | apply zR | apply zS | apply zT | apply zU | (apply zV; (· omega)) | (apply zW; (· omega)) | (apply zX; (· (first | omega | (dsimp only; omega)))) | (apply zY; (try (apply zY; apply zX; (· omega))); apply zX; (· omega); apply zX; (· (first | omega | (dsimp only; omega)))) | ((first | apply yJ | apply yK | apply yL | apply yM | apply yN | apply yO); (· exact hgA); (· exact hsA)) | (apply yNP; (· exact hgA); (· exact hsA)) | ((first | apply zA | apply zC | apply zE | apply zG); (· omega)) | ((first | apply zB | apply zD | apply zF | apply zH); (· omega)) | ((first | apply zI | apply zK); (· with_reducible assumption)) | ((first | apply zJ | apply zL); (· with_reducible assumption)) | fail)
      conv => whnf
      apply Exists.intro (k + 1)
      refine ⟨?inv, ?mu, ?wk⟩
      case wk =>
        conv => whnf
        refine weakH_of (HW.refl _) ?_
        repeat' (first | exact WT.nil | refine WT.same ?_ | refine WT.drop ?_ | refine WT.int (by omega) ?_ | refine WT.eq (by assumption) ?_ | refine WT.bl (by first | assumption | (symm; assumption)) ?_ | refine WT.vv (by assumption) ?_)
      case mu => first | omega | (dsimp only; omega)
      case inv => exact ⟨by omega, fun j hj h1 => by
        by_cases h2 : j = k
        · subst h2; exact hb
        · exact hvk j hj (by omega)⟩
  · have ha := all_valid (fun j hj => hvk j hj (by omega))
    clear hvk
    by_cases h0 : 0 < l.length
    · obtain ⟨i0, off, rfl⟩ := hl.at h0
      have hd := headD_at h0
      repeat' ((conv => whnf); first | ((first | (apply vB; (case h => with_reducible assumption)) | (apply vA; (case h => with_reducible assumption)) | (apply vC; (case h => with_reducible assumption))); (case hk => exact kpA); (case he => omega)) | ((first | (apply vI; (case h => with_reducible assumption)) | (apply vG; (case h => with_reducible assumption)) | (apply vK; (case h => with_reducible assumption))); (case hk => exact kpA); (case he => omega); (case hp => omega); (case' g => intro hr_ hc_)) | ((first | (apply vJ; (case h => with_reducible assumption)) | (apply vH; (case h => with_reducible assumption)) | (apply vL; (case h => with_reducible assumption))); (case hk => exact kpA); (case he => omega); (case' g => intro hr_ hc_)) | (apply drawS_auto mixed tt_ok; (· kernel_rfl)) | apply zZ | apply yA | apply yB | ((first | apply zA | apply zC | apply zE | apply zG); (· with_reducible assumption)) | ((first | apply zB | apply zD | apply zF | apply zH); (· with_reducible assumption)) | apply zM | apply zN | apply zO | apply zP | apply zQ | apply zR | apply zS | apply zT | apply zU | (apply zV; (· omega)) | (apply zW; (· omega)) | (apply zX; (· (first | omega | (dsimp only; omega)))) | (apply zY; (try (apply zY; apply zX; (· omega))); apply zX; (· omega); apply zX; (· (first | omega | (dsimp only; omega)))) | ((first | apply yJ | apply yK | apply yL | apply yM | apply yN | apply yO); (· exact hgA); (· exact hsA)) | (apply yNP; (· exact hgA); (· exact hsA)) | ((first | apply zA | apply zC | apply zE | apply zG); (· omega)) | ((first | apply zB | apply zD | apply zF | apply zH); (· omega)) | ((first | apply zI | apply zK); (· with_reducible assumption)) | ((first | apply zJ | apply zL); (· with_reducible assumption)) | fail)
      conv => whnf
      refine loopS_mask tt_ok (fun (i : Nat) => [.k, .w, .w, .w, .w, .p (iv (jT l i : Nat)), .p (iv i), .w, .w, .w, .w, .w, .w, .w, .w, .w, .w, .w, .w, .w, .w, .w, .w, .w, .w, .w, .w, .w, .w, .w, .w, .w, .w, .w, .w, .w, .w, .w, .w, .w, .w, .w, .w, .w, .w, .w, .w, .w, .w, .w, .w, .w, .w, .w, .w, .w, .w, .w, .w, .w, .w, .w, .w, .w, .w, .w, .w, .w, .w, .w, .w, .w, .w, .w]) (fun (i : Nat) => H) (fun (i : Nat) => i ≤ l.length ∧ ∀ j (hj : j < l.length), j < i → l[j].length = (l.headD []).length) (fun (i : Nat) => l.length - i) (0) (⟨by omega, fun j hj h1 => absurd h1 (Nat.not_lt_zero _)⟩) ?_ (fun i hi => ?_)
      · conv => whnf
        refine weakH_of (HW.refl _) ?_
        repeat' (first | exact WT.nil | refine WT.same ?_ | refine WT.drop ?_ | refine WT.int (by omega) ?_ | refine WT.eq (by assumption) ?_ | refine WT.bl (by first | assumption | (symm; assumption)) ?_ | refine WT.vv (by assumption) ?_)
      obtain ⟨hi, hli⟩ := hi
      have hTb := jT_bd ha i hi
      by_cases hil : i < l.length
      · have hvi := List.all_eq_true.1 ha l[i] (List.getElem_mem hil)
        obtain ⟨hC, hN, hR⟩ := cut_rows hvi
        have hfr := frames0 (m := l[i]) (by omega)
        have hTs := jT_succ hil
        by_cases hle : l[i].length = (l.headD []).length
        · rw [hd] at hle
          repeat' ((conv => whnf); first | ((first | (apply vB; (case h => with_reducible assumption)) | (apply vA; (case h => with_reducible assumption)) | (apply vC; (case h => with_reducible assumption))); (case hk => exact kpA); (case he => omega)) | ((first | (apply vI; (case h => with_reducible assumption)) | (apply vG; (case h => with_reducible assumption)) | (apply vK; (case h => with_reducible assumption))); (case hk => exact kpA); (case he => omega); (case hp => omega); (case' g => intro hr_ hc_)) | ((first | (apply vJ; (case h => with_reducible assumption)) | (apply vH; (case h => with_reducible assumption)) | (apply vL; (case h => with_reducible assumption))); (case hk => exact kpA); (case he => omega); (case' g => intro hr_ hc_)) | (apply drawS_auto mixed tt_ok; (· kernel_rfl)) | apply zZ | apply yA | apply yB | ((first | apply zA | apply zC | apply zE | apply zG); (· with_reducible assumption)) | ((first | apply zB | apply zD | apply zF | apply zH); (· with_reducible assumption)) | apply zM | apply zN | apply zO | apply zP | apply zQ | apply zR | apply zS | apply zT | apply zU | (apply zV; (· omega)) | (apply zW; (· omega)) | (apply zX; (· (first | omega | (dsimp only; omega)))) | (apply zY; (try (apply zY; apply zX; (· omega))); apply zX; (· omega); apply zX; (· (first | omega | (dsimp only; omega)))) | ((first | apply yJ | apply yK | apply yL | apply yM | apply yN | apply yO); (· exact hgA); (· exact hsA)) | (apply yNP; (· exact hgA); (· exact hsA)) | ((first | apply zA | apply zC | apply zE | apply zG); (· omega)) | ((first | apply zB | apply zD | apply zF | apply zH); (· omega)) | ((first | apply zI | apply zK); (· with_reducible assumption)) | ((first | apply zJ | apply zL); (· with_reducible assumption)) | fail)
          conv => whnf
          apply Exists.intro (i + 1)
          refine ⟨?inv, ?mu, ?wk⟩
          case wk =>
            conv => whnf
            refine weakH_of (HW.refl _) ?_
            repeat' (first | exact WT.nil | refine WT.same ?_ | refine WT.drop ?_ | refine WT.int (by omega) ?_ | refine WT.eq (by assumption) ?_ | refine WT.bl (by first | assumption | (symm; assumption)) ?_ | refine WT.vv (by assumption) ?_)
          case mu => first | omega | (dsimp only; omega)
          case inv => exact ⟨by omega, fun j hj h1 => by
            by_cases h2 : j = i
            · subst h2; rw [hd]; exact hle
            · exact hli j hj (by omega)⟩
        · have hbad := joinE_len ha hil hle
          rw [hd] at hle
          repeat' ((conv => whnf); first | ((first | (apply vB; (case h => with_reducible assumption)) | (apply vA; (case h => with_reducible assumption)) | (apply vC; (case h => with_reducible assumption))); (case hk => exact kpA); (case he => omega)) | ((first | (apply vI; (case h => with_reducible assumption)) | (apply vG; (case h => with_reducible assumption)) | (apply vK; (case h => with_reducible assumption))); (case hk => exact kpA); (case he => omega); (case hp => omega); (case' g => intro hr_ hc_)) | ((first | (apply vJ; (case h => with_reducible assumption)) | (apply vH; (case h => with_reducible assumption)) | (apply vL; (case h => with_reducible assumption))); (case hk => exact kpA); (case he => omega); (case' g => intro hr_ hc_)) | (apply drawS_auto mixed tt_ok; (· kernel_rfl)) | apply zZ | apply yA | apply yB | ((first | apply zA | apply zC | apply zE | apply zG); (· with_reducible assumption)) | ((first | apply zB | apply zD | apply zF | apply zH); (· with_reducible assumption)) | apply zM | apply zN | apply zO | apply zP | apply zQ | apply zR | apply zS | apply zT | apply zU | (apply zV; (· omega)) | (apply zW; (· omega)) | (apply zX; (· (first | omega | (dsimp only; omega)))) | (apply zY; (try (apply zY; apply zX; (· omega))); apply zX; (· omega); apply zX; (· (first | omega | (dsimp only; omega)))) | ((first | apply yJ | apply yK | apply yL | apply yM | apply yN | apply yO); (· exact hgA); (· exact hsA)) | (apply yNP; (· exact hgA); (· exact hsA)) | ((first | apply zA | apply zC | apply zE | apply zG); (· omega)) | ((first | apply zB | apply zD | apply zF | apply zH); (· omega)) | ((first | apply zI | apply zK); (· with_reducible assumption)) | ((first | apply zJ | apply zL); (· with_reducible assumption)) | fail)
          conv => whnf
          exact bad_ 11 hbad (by omega)
      · have hlall : ∀ j (hj : j < l.length), l[j].length = (l.headD []).length := fun j hj => hli j hj (by omega)
        have hie : i = l.length := by omega
        subst hie
        have hjE := joinE_fin ha h0 hlall
        have hok := jOk_of ha hlall
        by_cases hT : jT l l.length ≤ 4096
        · rw [if_pos hT] at hjE
          have hv0 := (hok l[0] (List.getElem_mem h0)).1
          obtain ⟨hC0, hN0, hR0⟩ := cut_rows hv0
          have hfr0 := frames0 (m := l[0]) (by omega)
          have hV : joinV l = jM l l.length := by unfold joinV; rw [if_pos hjE]
          have hjl : (joinV l).length = l[0].length := by rw [hV, jM_len, hd]
          rw [hjE, hjl] at h
          have hR1 : ∀ r ∈ l[0], r.length = l[0][0].length ∧ ∀ x ∈ r, -8388607 ≤ x ∧ x ≤ 8388607 := fun r hr => by rw [← hfr0]; exact hR0 r hr
          repeat' ((conv => whnf); first | (refine partF_c (f := 0) (t := l[0][0].length) ?_ hR1 ?_ ?_ (fun H1 p1 hle1 hx1 => ?_); (· exact mtA); (· omega); (· omega)) | ((first | (apply vB; (case h => with_reducible assumption)) | (apply vA; (case h => with_reducible assumption)) | (apply vC; (case h => with_reducible assumption))); (case hk => exact kpA); (case he => omega)) | ((first | (apply vI; (case h => with_reducible assumption)) | (apply vG; (case h => with_reducible assumption)) | (apply vK; (case h => with_reducible assumption))); (case hk => exact kpA); (case he => omega); (case hp => omega); (case' g => intro hr_ hc_)) | ((first | (apply vJ; (case h => with_reducible assumption)) | (apply vH; (case h => with_reducible assumption)) | (apply vL; (case h => with_reducible assumption))); (case hk => exact kpA); (case he => omega); (case' g => intro hr_ hc_)) | (apply drawS_auto mixed tt_ok; (· kernel_rfl)) | apply zZ | apply yA | apply yB | ((first | apply zA | apply zC | apply zE | apply zG); (· with_reducible assumption)) | ((first | apply zB | apply zD | apply zF | apply zH); (· with_reducible assumption)) | apply zM | apply zN | apply zO | apply zP | apply zQ | apply zR | apply zS | apply zT | apply zU | (apply zV; (· omega)) | (apply zW; (· omega)) | (apply zX; (· (first | omega | (dsimp only; omega)))) | (apply zY; (try (apply zY; apply zX; (· omega))); apply zX; (· omega); apply zX; (· (first | omega | (dsimp only; omega)))) | ((first | apply yJ | apply yK | apply yL | apply yM | apply yN | apply yO); (· exact hgA); (· exact hsA)) | (apply yNP; (· exact hgA); (· exact hsA)) | ((first | apply zA | apply zC | apply zE | apply zG); (· omega)) | ((first | apply zB | apply zD | apply zF | apply zH); (· omega)) | ((first | apply zI | apply zK); (· with_reducible assumption)) | ((first | apply zJ | apply zL); (· with_reducible assumption)) | fail)
          conv => whnf
          rw [← hfr0, jM_one h0 hv0] at hx1
          refine loopS_mask tt_ok (fun (k : Nat × AHeap × Option Addr) => [.k, .w, .w, .w, .w, .w, .w, .p (.slice k.2.2 l[0].length l[0].length), .p (iv k.1), .w, .w, .w, .w, .w, .w, .w, .w, .w, .w, .w, .w, .w, .w, .w, .w, .w, .w, .w, .w, .w, .w, .w, .w, .w, .w, .w, .w, .w, .w, .w, .w, .w, .w, .w, .w, .w, .w, .w, .w, .w, .w, .w, .w, .w, .w, .w, .w, .w, .w, .w, .w, .w, .w, .w, .w, .w, .w, .w, .w, .w, .w, .w, .w, .w]) (fun (k : Nat × AHeap × Option Addr) => k.2.1) (fun (k : Nat × AHeap × Option Addr) => (1 ≤ k.1 ∧ k.1 ≤ l.length) ∧ H.le k.2.1 ∧ Mat k.2.1 k.2.2 (jM l k.1)) (fun (k : Nat × AHeap × Option Addr) => l.length - k.1) (⟨1, H1, p1⟩) (⟨by omega, hle1, hx1⟩) ?_ (fun k hk => ?_)
          · conv => whnf
            refine weakH_of (HW.refl _) ?_
            repeat' (first | exact WT.nil | refine WT.same ?_ | refine WT.drop ?_ | refine WT.int (by omega) ?_ | refine WT.eq (by assumption) ?_ | refine WT.bl (by first | assumption | (symm; assumption)) ?_ | refine WT.vv (by assumption) ?_)
          obtain ⟨i, H2, p2⟩ := k
          obtain ⟨hi2, hle2, hx2⟩ := hk
          dsimp only at hi2 hle2 hx2 ⊢
          have hkp2 := hle2.kp
          by_cases hil : i < l.length
          · have hTm := jT_mono (l := l) (j := i + 1) (k := l.length) (by omega) (Nat.le_refl _)
            repeat' ((conv => whnf); first | (refine behindF_c (k := i) hok hil ?_ ?_ rfl hx2 ?_ (fun H3 p3 hle3 hx3 => ?_); (· omega); (· rw [hd]); (· exact mtA)) | ((first | (apply vB; (case h => with_reducible assumption)) | (apply vA; (case h => with_reducible assumption)) | (apply vC; (case h => with_reducible assumption))); (case hk => exact kpA); (case he => omega)) | ((first | (apply vI; (case h => with_reducible assumption)) | (apply vG; (case h => with_reducible assumption)) | (apply vK; (case h => with_reducible assumption))); (case hk => exact kpA); (case he => omega); (case hp => omega); (case' g => intro hr_ hc_)) | ((first | (apply vJ; (case h => with_reducible assumption)) | (apply vH; (case h => with_reducible assumption)) | (apply vL; (case h => with_reducible assumption))); (case hk => exact kpA); (case he => omega); (case' g => intro hr_ hc_)) | (apply drawS_auto mixed tt_ok; (· kernel_rfl)) | apply zZ | apply yA | apply yB | ((first | apply zA | apply zC | apply zE | apply zG); (· with_reducible assumption)) | ((first | apply zB | apply zD | apply zF | apply zH); (· with_reducible assumption)) | apply zM | apply zN | apply zO | apply zP | apply zQ | apply zR | apply zS | apply zT | apply zU | (apply zV; (· omega)) | (apply zW; (· omega)) | (apply zX; (· (first | omega | (dsimp only; omega)))) | (apply zY; (try (apply zY; apply zX; (· omega))); apply zX; (· omega); apply zX; (· (first | omega | (dsimp only; omega)))) | ((first | apply yJ | apply yK | apply yL | apply yM | apply yN | apply yO); (· exact hgA); (· exact hsA)) | (apply yNP; (· exact hgA); (· exact hsA)) | ((first | apply zA | apply zC | apply zE | apply zG); (· omega)) | ((first | apply zB | apply zD | apply zF | apply zH); (· omega)) | ((first | apply zI | apply zK); (· with_reducible assumption)) | ((first | apply zJ | apply zL); (· with_reducible assumption)) | fail)
            conv => whnf
            apply Exists.intro (i + 1, H3, p3)
            refine ⟨?inv, ?mu, ?wk⟩
            case wk =>
              conv => whnf
              refine weakH_of (HW.refl _) ?_
              repeat' (first | exact WT.nil | refine WT.same ?_ | refine WT.drop ?_ | refine WT.int (by omega) ?_ | refine WT.eq (by assumption) ?_ | refine WT.bl (by first | assumption | (symm; assumption)) ?_ | refine WT.vv (by assumption) ?_)
            case mu => first | omega | (dsimp only; omega)
            case inv => exact ⟨by omega, AHeap.le.trans hle2 hle3, hx3⟩
          · have hie : i = l.length := by omega
            rw [hie, ← hV] at hx2
            repeat' ((conv => whnf); first | ((first | (apply vB; (case h => with_reducible assumption)) | (apply vA; (case h => with_reducible assumption)) | (apply vC; (case h => with_reducible assumption))); (case hk => exact kpA); (case he => omega)) | ((first | (apply vI; (case h => with_reducible assumption)) | (apply vG; (case h => with_reducible assumption)) | (apply vK; (case h => with_reducible assumption))); (case hk => exact kpA); (case he => omega); (case hp => omega); (case' g => intro hr_ hc_)) | ((first | (apply vJ; (case h => with_reducible assumption)) | (apply vH; (case h => with_reducible assumption)) | (apply vL; (case h => with_reducible assumption))); (case hk => exact kpA); (case he => omega); (case' g => intro hr_ hc_)) | (apply drawS_auto mixed tt_ok; (· kernel_rfl)) | apply zZ | apply yA | apply yB | ((first | apply zA | apply zC | apply zE | apply zG); (· with_reducible assumption)) | ((first | apply zB | apply zD | apply zF | apply zH); (· with_reducible assumption)) | apply zM | apply zN | apply zO | apply zP | apply zQ | apply zR | apply zS | apply zT | apply zU | (apply zV; (· omega)) | (apply zW; (· omega)) | (apply zX; (· (first | omega | (dsimp only; omega)))) | (apply zY; (try (apply zY; apply zX; (· omega))); apply zX; (· omega); apply zX; (· (first | omega | (dsimp only; omega)))) | ((first | apply yJ | apply yK | apply yL | apply yM | apply yN | apply yO); (· exact hgA); (· exact hsA)) | (apply yNP; (· exact hgA); (· exact hsA)) | ((first | apply zA | apply zC | apply zE | apply zG); (· omega)) | ((first | apply zB | apply zD | apply zF | apply zH); (· omega)) | ((first | apply zI | apply zK); (· with_reducible assumption)) | ((first | apply zJ | apply zL); (· with_reducible assumption)) | fail)
            conv => whnf
            exact h _ _ hle2 hx2
        · rw [if_neg hT] at hjE
          repeat' ((conv => whnf); first | ((first | (apply vB; (case h => with_reducible assumption)) | (apply vA; (case h => with_reducible assumption)) | (apply vC; (case h => with_reducible assumption))); (case hk => exact kpA); (case he => omega)) | ((first | (apply vI; (case h => with_reducible assumption)) | (apply vG; (case h => with_reducible assumption)) | (apply vK; (case h => with_reducible assumption))); (case hk => exact kpA); (case he => omega); (case hp => omega); (case' g => intro hr_ hc_)) | ((first | (apply vJ; (case h => with_reducible assumption)) | (apply vH; (case h => with_reducible assumption)) | (apply vL; (case h => with_reducible assumption))); (case hk => exact kpA); (case he => omega); (case' g => intro hr_ hc_)) | (apply drawS_auto mixed tt_ok; (· kernel_rfl)) | apply zZ | apply yA | apply yB | ((first | apply zA | apply zC | apply zE | apply zG); (· with_reducible assumption)) | ((first | apply zB | apply zD | apply zF | apply zH); (· with_reducible assumption)) | apply zM | apply zN | apply zO | apply zP | apply zQ | apply zR | apply zS | apply zT | apply zU | (apply zV; (· omega)) | (apply zW; (· omega)) | (apply zX; (· (first | omega | (dsimp only; omega)))) | (apply zY; (try (apply zY; apply zX; (· omega))); apply zX; (· omega); apply zX; (· (first | omega | (dsimp only; omega)))) | ((first | apply yJ | apply yK | apply yL | apply yM | apply yN | apply yO); (· exact hgA); (· exact hsA)) | (apply yNP; (· exact hgA); (· exact hsA)) | ((first | apply zA | apply zC | apply zE | apply zG); (· omega)) | ((first | apply zB | apply zD | apply zF | apply zH); (· omega)) | ((first | apply zI | apply zK); (· with_reducible assumption)) | ((first | apply zJ | apply zL); (· with_reducible assumption)) | fail)
          conv => whnf
          exact bad_ 4 hjE (by omega)
    · have hz : l.length = 0 := by omega
      have hnil : l = [] := List.eq_nil_of_length_eq_zero hz
      repeat' ((conv => whnf); first | ((first | (apply vB; (case h => with_reducible assumption)) | (apply vA; (case h => with_reducible assumption)) | (apply vC; (case h => with_reducible assumption))); (case hk => exact kpA); (case he => omega)) | ((first | (apply vI; (case h => with_reducible assumption)) | (apply vG; (case h => with_reducible assumption)) | (apply vK; (case h => with_reducible assumption))); (case hk => exact kpA); (case he => omega); (case hp => omega); (case' g => intro hr_ hc_)) | ((first | (apply vJ; (case h => with_reducible assumption)) | (apply vH; (case h => with_reducible assumption)) | (apply vL; (case h => with_reducible assumption))); (case hk => exact kpA); (case he => omega); (case' g => intro hr_ hc_)) | (apply drawS_auto mixed tt_ok; (· kernel_rfl)) | apply zZ | apply yA | apply yB | ((first | apply zA | apply zC | apply zE | apply zG); (· with_reducible assumption)) | ((first | apply zB | apply zD | apply zF | apply zH); (· with_reducible assumption)) | apply zM | apply zN | apply zO | apply zP | apply zQ | apply zR | apply zS | apply zT | apply zU | (apply zV; (· omega)) | (apply zW; (· omega)) | (apply zX; (· (first | omega | (dsimp only; omega)))) | (apply zY; (try (apply zY; apply zX; (· omega))); apply zX; (· omega); apply zX; (· (first | omega | (dsimp only; omega)))) | ((first | apply yJ | apply yK | apply yL | apply yM | apply yN | apply yO); (· exact hgA); (· exact hsA)) | (apply yNP; (· exact hgA); (· exact hsA)) | ((first | apply zA | apply zC | apply zE | apply zG); (· omega)) | ((first | apply zB | apply zD | apply zF | apply zH); (· omega)) | ((first | apply zI | apply zK); (· with_reducible assumption)) | ((first | apply zJ | apply zL); (· with_reducible assumption)) | fail)
      conv => whnf
      exact bad_ 11 (by rw [hnil]; exact joinE_empty) (by omega)
end Go.Abs
