/- Contracts of Mix. -/
import Derived.Test.YtoakdiccepcelaaP06
import Derived.Test.YtoakdiccepcelaaM06
set_option linter.all false
set_option maxHeartbeats 4000000
set_option maxRecDepth 20000
namespace Go.Abs
open Go Go.Proofs

def sumAt (l : List (List (List Int))) (k i : Nat) : Int := (l.map fun b => at2 b k i).sum
def clipF (x : Int) : Int := max (0 - 8388607) (min 8388607 x)
def sizeOk (l : List (List (List Int))) (b : List (List Int)) : Bool := decide (b.length = (l.headD []).length ∧ framesB b = framesB (l.headD []))
def mixE (l : List (List (List Int))) : Int :=
  if l.all blockB = true then if l.all (sizeOk l) = true then if l = [] then 8 else if l.length ≤ 40 then 0 else 4 else 11 else 1
def mixM (l : List (List (List Int))) : List (List Int) :=
  if mixE l = 0 then matF (fun k i => clipF (sumAt l k i)) (l.headD []).length (framesB (l.headD [])) else []
theorem sumAt_snoc (l : List (List (List Int))) (b : List (List Int)) (k i : Nat) : sumAt (l ++ [b]) k i = sumAt l k i + at2 b k i := by simp [sumAt]
theorem sumAt_take {l : List (List (List Int))} {t : Nat} (h : t < l.length) (k i : Nat) : sumAt (l.take (t + 1)) k i = sumAt (l.take t) k i + at2 l[t] k i := by rw [take_succ_of h, sumAt_snoc]
theorem getD_bd {r : List Int} (h : ∀ x ∈ r, -8388607 ≤ x ∧ x ≤ 8388607) (i : Nat) : -8388607 ≤ r.getD i 0 ∧ r.getD i 0 ≤ 8388607 := by
  by_cases hi : i < r.length
  · have := h r[i] (List.getElem_mem _)
    simpa [List.getD, hi] using this
  · simp [List.getD, hi]
theorem at2_bd {b : List (List Int)} (h : blockB b = true) (k i : Nat) : -8388607 ≤ at2 b k i ∧ at2 b k i ≤ 8388607 := by
  obtain ⟨_, hr⟩ := blockB_rows h
  unfold at2
  refine getD_bd (fun x hx => ?_) i
  by_cases hk : k < b.length
  · have e : b.getD k [] = b[k] := by simp [List.getD, hk]
    rw [e] at hx
    exact (hr _ (List.getElem_mem hk)).2.2 x hx
  · simp [List.getD, hk] at hx
theorem sumAt_bd : ∀ (l : List (List (List Int))), l.all blockB = true → ∀ k i, -(8388607 * (l.length : Int)) ≤ sumAt l k i ∧ sumAt l k i ≤ 8388607 * (l.length : Int)
  | [], _, k, i => by simp [sumAt]
  | b :: l, h, k, i => by
    simp only [List.all_cons, Bool.and_eq_true] at h
    have h1 := sumAt_bd l h.2 k i
    have h2 := at2_bd h.1 k i
    simp only [sumAt, List.map_cons, List.sum_cons, List.length_cons] at *
    omega
theorem all_take {α : Type} {p : α → Bool} {l : List α} (h : l.all p = true) (n : Nat) : (l.take n).all p = true :=
  List.all_eq_true.2 fun x hx => List.all_eq_true.1 h x (List.mem_of_mem_take hx)
theorem mixE_cases {l : List (List (List Int))} (h1 : l.all blockB = true) (h2 : l.all (sizeOk l) = true) (h3 : 0 < l.length) (h4 : l.length ≤ 40) : mixE l = 0 := by
  have : l ≠ [] := by intro e; simp [e] at h3
  simp [mixE, h1, h2, this, h4]
/-- what is known of blocks of one size -/
structure BAlike (l : List (List (List Int))) (n L : Nat) : Prop where
  hn : 1 ≤ n ∧ n ≤ 8
  hL : L ≤ 4096
  len : ∀ (k : Nat) (h : k < l.length), l[k].length = n
  row : ∀ (k : Nat) (h : k < l.length), ∀ r ∈ l[k], r.length = L
  bd : ∀ (k : Nat) (h : k < l.length), ∀ r ∈ l[k], ∀ x ∈ r, -8388607 ≤ x ∧ x ≤ 8388607
theorem alike {l : List (List (List Int))} (h1 : l.all blockB = true) (h2 : l.all (sizeOk l) = true) (h3 : 0 < l.length) : BAlike l (l.headD []).length (framesB (l.headD [])) := by
  have hd : l.headD [] = l[0] := by cases l with
    | nil => simp at h3
    | cons x xs => rfl
  have hb : ∀ (k : Nat) (h : k < l.length), blockB l[k] = true := fun k h => List.all_eq_true.1 h1 _ (List.getElem_mem _)
  have hs : ∀ (k : Nat) (h : k < l.length), l[k].length = (l.headD []).length ∧ framesB l[k] = framesB (l.headD []) := fun k h => by
    have := List.all_eq_true.1 h2 _ (List.getElem_mem h)
    simpa [sizeOk] using this
  obtain ⟨h01, h02⟩ := blockB_rows (hb 0 h3)
  refine ⟨by rw [hd]; exact h01, ?_, fun k h => (hs k h).1, fun k h r hr => ?_, fun k h r hr => ((blockB_rows (hb k h)).2 r hr).2.2⟩
  · rw [hd]
    have : 0 < l[0].length := by omega
    rw [framesB, headD_eq this]
    exact (h02 _ (List.getElem_mem _)).2.1
  · rw [((blockB_rows (hb k h)).2 r hr).1]
    exact (hs k h).2

theorem mix_aux {b : List (List Int)} {f : Nat → Nat → Int} {k j : Nat} (hk : k < b.length) (hj : j < b[k].length) (i c : Nat) :
    (if i = k ∧ c = j then f k j + b[k][j] else if i < k ∨ i = k ∧ c < j then f i c + at2 b i c else f i c) = if i < k ∨ i = k ∧ c < j + 1 then f i c + at2 b i c else f i c := by
  by_cases h1 : i = k ∧ c = j
  · obtain ⟨rfl, rfl⟩ := h1
    rw [if_pos ⟨rfl, rfl⟩, if_pos (by omega), at2_eq hk hj]
  · rw [if_neg h1]
    by_cases h2 : i < k ∨ i = k ∧ c < j
    · rw [if_pos h2, if_pos (by omega)]
    · rw [if_neg h2, if_neg (by omega)]
theorem mix1_c {base o n L : Nat} {rs : List Nat} {f : Nat → Nat → Int} {p : Option Addr} {c : Nat} {b : List (List Int)} {H : AHeap} {K : CK} (hn : n ≤ 8) (hL : L ≤ 4096) (hom : OMat H base o rs (matF f n L) []) (hb : Mat H p b) (h1 : b.length = n) (h2 : ∀ r ∈ b, r.length = L)
    (h3 : ∀ r ∈ b, ∀ x ∈ r, -8388607 ≤ x ∧ x ≤ 8388607) (hf : ∀ i c, -1000000000 ≤ f i c ∧ f i c ≤ 1000000000)
    (h : ∀ H', OMat H' base o rs (matF (fun i c => f i c + at2 b i c) n L) [] → OKeep H H' base rs → K (.returned (.slice (some ⟨o, 0, none⟩) n n)) H') :
    callS P (fnV 64) [.slice (some ⟨o, 0, none⟩) n n, .slice p b.length c] H K := by
  refine callS_walk tt_ok Try.func64 rfl (by kernel_rfl) ?_
  conv => whnf
  repeat' ((conv => whnf); first | ((first | (apply vB; (case h => assumption)) | (apply vA; (case h => assumption)) | (apply vC; (case h => assumption))); (case hk => exact kpA); (case he => omega)) | ((first | (apply vI; (case h => assumption)) | (apply vG; (case h => assumption)) | (apply vK; (case h => assumption))); (case hk => exact kpA); (case he => omega); (case hp => omega); (case' g => intro hr_ hc_)) | ((first | (apply vJ; (case h => assumption)) | (apply vH; (case h => assumption)) | (apply vL; (case h => assumption))); (case hk => exact kpA); (case he => omega); (case' g => intro hr_ hc_)) | (apply drawS_auto mixed tt_ok; (· kernel_rfl)) | apply zZ | apply yA | apply yB | ((first | apply zA | apply zC | apply zE | apply zG); (· assumption)) | ((first | apply zB | apply zD | apply zF | apply zH); (· assumption)) | apply zM | apply zN | apply zO | apply zP | apply zQ | apply zR | apply zS | apply zT | apply zU | (apply zV; (· omega)) | (apply zW; (· omega)) | (apply zX; (· (first | omega | (dsimp only; omega)))) | (apply zY; (try (apply zY; apply zX; (· omega))); apply zX; (· omega); apply zX; (· (first | omega | (dsimp only; omega)))) | ((first | apply yJ | apply yK | apply yL | apply yM | apply yN | apply yO); (· exact hgA); (· exact hsA)) | ((first | apply zA | apply zC | apply zE | apply zG); (· omega)) | ((first | apply zB | apply zD | apply zF | apply zH); (· omega)) | ((first | apply zI | apply zK); (· assumption)) | ((first | apply zJ | apply zL); (· assumption)) | fail)
  conv => whnf
  refine loopS_mask tt_ok (fun (k : Nat × AHeap) => [.k, .k, .w, .w, .w, .w, .w, .w, .k, .p (iv k.1), .w, .w, .w, .w, .w, .w, .w, .w, .w, .w, .w, .w, .w, .w, .w, .w, .w, .w, .w, .w, .w, .w, .w, .w, .w, .w, .w, .w, .w]) (fun (k : Nat × AHeap) => k.2) (fun (k : Nat × AHeap) => k.1 ≤ n ∧ OKeep H k.2 base rs ∧ OMat k.2 base o rs (matF (fun i c => if i < k.1 then f i c + at2 b i c else f i c) n L) []) (fun (k : Nat × AHeap) => n - k.1) (⟨0, H⟩) (⟨by omega, .refl _ _ _, hom.cast _ (fun i hi c hc => by simp)⟩) ?_ (fun k hk => ?_)
  · conv => whnf
    refine weakH_of (HW.refl _) ?_
    repeat' (first | exact WT.nil | refine WT.same ?_ | refine WT.drop ?_ | refine WT.int (by omega) ?_ | refine WT.eq (by assumption) ?_ | refine WT.bl (by first | assumption | (symm; assumption)) ?_ | refine WT.vv (by assumption) ?_)
  obtain ⟨k, H1⟩ := k
  obtain ⟨hk, hkp, hom1⟩ := hk
  dsimp only at hk hkp hom1 ⊢
  by_cases hlt : k < n
  · have hkb : k < b.length := by omega
    have hrl : b[k].length = L := h2 _ (List.getElem_mem _)
    obtain ⟨i0, off, rfl⟩ := hb.at hkb
    repeat' ((conv => whnf); first | refine hom1.row hlt ?_ | ((first | (apply vB; (case h => assumption)) | (apply vA; (case h => assumption)) | (apply vC; (case h => assumption))); (case hk => exact kpA); (case he => omega)) | ((first | (apply vI; (case h => assumption)) | (apply vG; (case h => assumption)) | (apply vK; (case h => assumption))); (case hk => exact kpA); (case he => omega); (case hp => omega); (case' g => intro hr_ hc_)) | ((first | (apply vJ; (case h => assumption)) | (apply vH; (case h => assumption)) | (apply vL; (case h => assumption))); (case hk => exact kpA); (case he => omega); (case' g => intro hr_ hc_)) | (apply drawS_auto mixed tt_ok; (· kernel_rfl)) | apply zZ | apply yA | apply yB | ((first | apply zA | apply zC | apply zE | apply zG); (· assumption)) | ((first | apply zB | apply zD | apply zF | apply zH); (· assumption)) | apply zM | apply zN | apply zO | apply zP | apply zQ | apply zR | apply zS | apply zT | apply zU | (apply zV; (· omega)) | (apply zW; (· omega)) | (apply zX; (· (first | omega | (dsimp only; omega)))) | (apply zY; (try (apply zY; apply zX; (· omega))); apply zX; (· omega); apply zX; (· (first | omega | (dsimp only; omega)))) | ((first | apply yJ | apply yK | apply yL | apply yM | apply yN | apply yO); (· exact hgA); (· exact hsA)) | ((first | apply zA | apply zC | apply zE | apply zG); (· omega)) | ((first | apply zB | apply zD | apply zF | apply zH); (· omega)) | ((first | apply zI | apply zK); (· assumption)) | ((first | apply zJ | apply zL); (· assumption)) | fail)
    conv => whnf
    refine loopS_mask tt_ok (fun (j : Nat × AHeap) => [.k, .k, .w, .w, .w, .k, .w, .w, .k, .k, .w, .w, .w, .w, .w, .w, .k, .p (iv j.1), .w, .w, .w, .w, .w, .w, .w, .w, .w, .w, .w, .w, .w, .w, .w, .w, .w, .w, .w, .w, .w]) (fun (j : Nat × AHeap) => j.2) (fun (j : Nat × AHeap) => j.1 ≤ L ∧ OKeep H j.2 base rs ∧ OMat j.2 base o rs (matF (fun i c => if i < k ∨ (i = k ∧ c < j.1) then f i c + at2 b i c else f i c) n L) []) (fun (j : Nat × AHeap) => L - j.1) (⟨0, H1⟩) (⟨by omega, hkp, hom1.cast _ (fun i hi c hc => by simp)⟩) ?_ (fun j hj => ?_)
    · conv => whnf
      refine weakH_of (HW.refl _) ?_
      repeat' (first | exact WT.nil | refine WT.same ?_ | refine WT.drop ?_ | refine WT.int (by omega) ?_ | refine WT.eq (by assumption) ?_ | refine WT.bl (by first | assumption | (symm; assumption)) ?_ | refine WT.vv (by assumption) ?_)
    obtain ⟨j, H2⟩ := j
    obtain ⟨hj, hkp2, hom2⟩ := hj
    dsimp only at hj hkp2 hom2 ⊢
    by_cases hlj : j < L
    · have hjl : j < b[k].length := by omega
      have hx := h3 _ (List.getElem_mem hkb) _ (List.getElem_mem hjl)
      have hfk := hf k j
      have hkp3 := hkp2.kp _ (Kp.refl _)
      have e1 : (if k < k ∨ k = k ∧ j < j then f k j + at2 b k j else f k j) = f k j := by simp
      repeat' ((conv => whnf); first | refine hom2.row hlt ?_ | refine hom2.at hlt hlj ?_; rw [e1] | refine hom2.put2 hlt hlj (fun i c => if i < k ∨ (i = k ∧ c < j + 1) then f i c + at2 b i c else f i c) (fun i hi c hc => ?_) (fun H3 hom3 hkp3 => ?_); exact mix_aux hkb hjl i c | ((first | (apply vB; (case h => assumption)) | (apply vA; (case h => assumption)) | (apply vC; (case h => assumption))); (case hk => exact kpA); (case he => omega)) | ((first | (apply vI; (case h => assumption)) | (apply vG; (case h => assumption)) | (apply vK; (case h => assumption))); (case hk => exact kpA); (case he => omega); (case hp => omega); (case' g => intro hr_ hc_)) | ((first | (apply vJ; (case h => assumption)) | (apply vH; (case h => assumption)) | (apply vL; (case h => assumption))); (case hk => exact kpA); (case he => omega); (case' g => intro hr_ hc_)) | (apply drawS_auto mixed tt_ok; (· kernel_rfl)) | apply zZ | apply yA | apply yB | ((first | apply zA | apply zC | apply zE | apply zG); (· assumption)) | ((first | apply zB | apply zD | apply zF | apply zH); (· assumption)) | apply zM | apply zN | apply zO | apply zP | apply zQ | apply zR | apply zS | apply zT | apply zU | (apply zV; (· omega)) | (apply zW; (· omega)) | (apply zX; (· (first | omega | (dsimp only; omega)))) | (apply zY; (try (apply zY; apply zX; (· omega))); apply zX; (· omega); apply zX; (· (first | omega | (dsimp only; omega)))) | ((first | apply yJ | apply yK | apply yL | apply yM | apply yN | apply yO); (· exact hgA); (· exact hsA)) | ((first | apply zA | apply zC | apply zE | apply zG); (· omega)) | ((first | apply zB | apply zD | apply zF | apply zH); (· omega)) | ((first | apply zI | apply zK); (· assumption)) | ((first | apply zJ | apply zL); (· assumption)) | fail)
      conv => whnf
      apply Exists.intro (j + 1, H3)
      refine ⟨?inv, ?mu, ?wk⟩
      case wk =>
        conv => whnf
        refine weakH_of (HW.refl _) ?_
        repeat' (first | exact WT.nil | refine WT.same ?_ | refine WT.drop ?_ | refine WT.int (by omega) ?_ | refine WT.eq (by assumption) ?_ | refine WT.bl (by first | assumption | (symm; assumption)) ?_ | refine WT.vv (by assumption) ?_)
      case mu => first | omega | (dsimp only; omega)
      case inv => exact ⟨by omega, hkp2.trans hkp3, hom3⟩
    · have hjl : j = L := by omega
      subst hjl
      repeat' ((conv => whnf); first | ((first | (apply vB; (case h => assumption)) | (apply vA; (case h => assumption)) | (apply vC; (case h => assumption))); (case hk => exact kpA); (case he => omega)) | ((first | (apply vI; (case h => assumption)) | (apply vG; (case h => assumption)) | (apply vK; (case h => assumption))); (case hk => exact kpA); (case he => omega); (case hp => omega); (case' g => intro hr_ hc_)) | ((first | (apply vJ; (case h => assumption)) | (apply vH; (case h => assumption)) | (apply vL; (case h => assumption))); (case hk => exact kpA); (case he => omega); (case' g => intro hr_ hc_)) | (apply drawS_auto mixed tt_ok; (· kernel_rfl)) | apply zZ | apply yA | apply yB | ((first | apply zA | apply zC | apply zE | apply zG); (· assumption)) | ((first | apply zB | apply zD | apply zF | apply zH); (· assumption)) | apply zM | apply zN | apply zO | apply zP | apply zQ | apply zR | apply zS | apply zT | apply zU | (apply zV; (· omega)) | (apply zW; (· omega)) | (apply zX; (· (first | omega | (dsimp only; omega)))) | (apply zY; (try (apply zY; apply zX; (· omega))); apply zX; (· omega); apply zX; (· (first | omega | (dsimp only; omega)))) | ((first | apply yJ | apply yK | apply yL | apply yM | apply yN | apply yO); (· exact hgA); (· exact hsA)) | ((first | apply zA | apply zC | apply zE | apply zG); (· omega)) | ((first | apply zB | apply zD | apply zF | apply zH); (· omega)) | ((first | apply zI | apply zK); (· assumption)) | ((first | apply zJ | apply zL); (· assumption)) | fail)
      conv => whnf
      apply Exists.intro (k + 1, H2)
      refine ⟨?inv, ?mu, ?wk⟩
      case wk =>
        conv => whnf
        refine weakH_of (HW.refl _) ?_
        repeat' (first | exact WT.nil | refine WT.same ?_ | refine WT.drop ?_ | refine WT.int (by omega) ?_ | refine WT.eq (by assumption) ?_ | refine WT.bl (by first | assumption | (symm; assumption)) ?_ | refine WT.vv (by assumption) ?_)
      case mu => first | omega | (dsimp only; omega)
      case inv => exact ⟨by omega, hkp2, hom2.cast _ (fun i hi c hc => by
        have : (i < k ∨ i = k ∧ c < j) ↔ i < k + 1 := by omega
        simp [this])⟩
  · have hkn : k = n := by omega
    subst hkn
    repeat' ((conv => whnf); first | ((first | (apply vB; (case h => assumption)) | (apply vA; (case h => assumption)) | (apply vC; (case h => assumption))); (case hk => exact kpA); (case he => omega)) | ((first | (apply vI; (case h => assumption)) | (apply vG; (case h => assumption)) | (apply vK; (case h => assumption))); (case hk => exact kpA); (case he => omega); (case hp => omega); (case' g => intro hr_ hc_)) | ((first | (apply vJ; (case h => assumption)) | (apply vH; (case h => assumption)) | (apply vL; (case h => assumption))); (case hk => exact kpA); (case he => omega); (case' g => intro hr_ hc_)) | (apply drawS_auto mixed tt_ok; (· kernel_rfl)) | apply zZ | apply yA | apply yB | ((first | apply zA | apply zC | apply zE | apply zG); (· assumption)) | ((first | apply zB | apply zD | apply zF | apply zH); (· assumption)) | apply zM | apply zN | apply zO | apply zP | apply zQ | apply zR | apply zS | apply zT | apply zU | (apply zV; (· omega)) | (apply zW; (· omega)) | (apply zX; (· (first | omega | (dsimp only; omega)))) | (apply zY; (try (apply zY; apply zX; (· omega))); apply zX; (· omega); apply zX; (· (first | omega | (dsimp only; omega)))) | ((first | apply yJ | apply yK | apply yL | apply yM | apply yN | apply yO); (· exact hgA); (· exact hsA)) | ((first | apply zA | apply zC | apply zE | apply zG); (· omega)) | ((first | apply zB | apply zD | apply zF | apply zH); (· omega)) | ((first | apply zI | apply zK); (· assumption)) | ((first | apply zJ | apply zL); (· assumption)) | fail)
    conv => whnf
    exact h _ (hom1.cast _ (fun i hi c hc => by simp [hi])) hkp
theorem alike0 {l : List (List (List Int))} (h1 : l.all blockB = true) (h2 : l.all (sizeOk l) = true) (h3 : 0 < l.length) (h4 : 0 < l[0].length) : BAlike l l[0].length l[0][0].length := by
  have hd : l.headD [] = l[0] := by cases l with
    | nil => simp at h3
    | cons x xs => rfl
  have := alike h1 h2 h3
  rw [hd] at this
  rwa [framesB, headD_eq h4] at this
theorem mixM_eq {l : List (List (List Int))} (h1 : mixE l = 0) (h3 : 0 < l.length) (h4 : 0 < l[0].length) : mixM l = matF (fun k i => clipF (sumAt l k i)) l[0].length l[0][0].length := by
  have hd : l.headD [] = l[0] := by cases l with
    | nil => simp at h3
    | cons x xs => rfl
  rw [mixM, if_pos h1, hd, framesB, headD_eq h4]
theorem foldedB_c {base o n L : Nat} {rs : List Nat} {p : Option Addr} {c : Nat} {l : List (List (List Int))} {H : AHeap} {K : CK} (hl : Bls H p l) (ha : BAlike l n L) (hv : l.all blockB = true) (h40 : l.length ≤ 40) (hom : OMat H base o rs (matF (fun _ _ => 0) n L) [])
    (h : ∀ H', OMat H' base o rs (matF (sumAt l) n L) [] → OKeep H H' base rs → K (.returned (.slice (some ⟨o, 0, none⟩) n n)) H') :
    callS P (fnV 63) [.slice p l.length c, .slice (some ⟨o, 0, none⟩) n n, fnV 64] H K := by
  refine callS_walk tt_ok Try.func63 rfl (by kernel_rfl) ?_
  conv => whnf
  repeat' ((conv => whnf); first | ((first | (apply vB; (case h => assumption)) | (apply vA; (case h => assumption)) | (apply vC; (case h => assumption))); (case hk => exact kpA); (case he => omega)) | ((first | (apply vI; (case h => assumption)) | (apply vG; (case h => assumption)) | (apply vK; (case h => assumption))); (case hk => exact kpA); (case he => omega); (case hp => omega); (case' g => intro hr_ hc_)) | ((first | (apply vJ; (case h => assumption)) | (apply vH; (case h => assumption)) | (apply vL; (case h => assumption))); (case hk => exact kpA); (case he => omega); (case' g => intro hr_ hc_)) | apply yA | apply yB | ((first | apply zA | apply zC | apply zE | apply zG); (· assumption)) | ((first | apply zB | apply zD | apply zF | apply zH); (· assumption)) | apply zM | apply zN | apply zO | apply zP | apply zQ | apply zR | apply zS | apply zT | apply zU | (apply zV; (· omega)) | (apply zW; (· omega)) | (apply zX; (· (first | omega | (dsimp only; omega)))) | (apply zY; (try (apply zY; apply zX; (· omega))); apply zX; (· omega); apply zX; (· (first | omega | (dsimp only; omega)))) | ((first | apply yJ | apply yK | apply yL | apply yM | apply yN | apply yO); (· exact hgA); (· exact hsA)) | ((first | apply zA | apply zC | apply zE | apply zG); (· omega)) | ((first | apply zB | apply zD | apply zF | apply zH); (· omega)) | ((first | apply zI | apply zK); (· assumption)) | ((first | apply zJ | apply zL); (· assumption)) | fail)
  conv => whnf
  refine loopS_mask tt_ok (fun (k : Nat × AHeap) => [.w, .p (.slice (some ⟨o, 0, none⟩) n n), .k, .w, .w, .w, .w, .w, .w, .k, .k, .p (iv k.1), .w, .w, .w, .w, .w, .w, .w, .w, .w]) (fun (k : Nat × AHeap) => k.2) (fun (k : Nat × AHeap) => k.1 ≤ l.length ∧ OKeep H k.2 base rs ∧ OMat k.2 base o rs (matF (sumAt (l.take k.1)) n L) []) (fun (k : Nat × AHeap) => l.length - k.1) (⟨0, H⟩) (⟨by omega, .refl _ _ _, hom.cast _ (fun i hi c hc => by simp [sumAt])⟩) ?_ (fun k hk => ?_)
  · conv => whnf
    refine weakH_of (HW.refl _) ?_
    repeat' (first | exact WT.nil | refine WT.same ?_ | refine WT.drop ?_ | refine WT.int (by omega) ?_ | refine WT.eq (by assumption) ?_ | refine WT.bl (by first | assumption | (symm; assumption)) ?_ | refine WT.vv (by assumption) ?_)
  obtain ⟨k, H1⟩ := k
  obtain ⟨hk, hkp, hom1⟩ := hk
  dsimp only at hk hkp hom1 ⊢
  have hkp1 := hkp.kp _ (Kp.refl _)
  by_cases hlt : k < l.length
  · obtain ⟨i0, off, rfl⟩ := hl.at hlt
    have hln := ha.len k hlt
    repeat' ((conv => whnf); first | refine mix1_c ha.hn.2 ha.hL hom1 mtA hln (ha.row k hlt) (ha.bd k hlt) (fun i c => ?_) (fun H2 hom2 hkp2 => ?_); (have := sumAt_bd (l.take k) (all_take hv k) i c; (have := List.length_take_le k l); omega) | ((first | (apply vB; (case h => assumption)) | (apply vA; (case h => assumption)) | (apply vC; (case h => assumption))); (case hk => exact kpA); (case he => omega)) | ((first | (apply vI; (case h => assumption)) | (apply vG; (case h => assumption)) | (apply vK; (case h => assumption))); (case hk => exact kpA); (case he => omega); (case hp => omega); (case' g => intro hr_ hc_)) | ((first | (apply vJ; (case h => assumption)) | (apply vH; (case h => assumption)) | (apply vL; (case h => assumption))); (case hk => exact kpA); (case he => omega); (case' g => intro hr_ hc_)) | apply yA | apply yB | ((first | apply zA | apply zC | apply zE | apply zG); (· assumption)) | ((first | apply zB | apply zD | apply zF | apply zH); (· assumption)) | apply zM | apply zN | apply zO | apply zP | apply zQ | apply zR | apply zS | apply zT | apply zU | (apply zV; (· omega)) | (apply zW; (· omega)) | (apply zX; (· (first | omega | (dsimp only; omega)))) | (apply zY; (try (apply zY; apply zX; (· omega))); apply zX; (· omega); apply zX; (· (first | omega | (dsimp only; omega)))) | ((first | apply yJ | apply yK | apply yL | apply yM | apply yN | apply yO); (· exact hgA); (· exact hsA)) | ((first | apply zA | apply zC | apply zE | apply zG); (· omega)) | ((first | apply zB | apply zD | apply zF | apply zH); (· omega)) | ((first | apply zI | apply zK); (· assumption)) | ((first | apply zJ | apply zL); (· assumption)) | fail)
    conv => whnf
    apply Exists.intro (k + 1, H2)
    refine ⟨?inv, ?mu, ?wk⟩
    case wk =>
      conv => whnf
      refine weakH_of (HW.refl _) ?_
      repeat' (first | exact WT.nil | refine WT.same ?_ | refine WT.drop ?_ | refine WT.int (by omega) ?_ | refine WT.eq (by assumption) ?_ | refine WT.bl (by first | assumption | (symm; assumption)) ?_ | refine WT.vv (by assumption) ?_)
    case mu => first | omega | (dsimp only; omega)
    case inv => exact ⟨by omega, hkp.trans hkp2, hom2.cast _ (fun i hi c hc => (sumAt_take hlt i c).symm)⟩
  · have hkn : k = l.length := by omega
    subst hkn
    rw [List.take_length] at hom1
    repeat' ((conv => whnf); first | ((first | (apply vB; (case h => assumption)) | (apply vA; (case h => assumption)) | (apply vC; (case h => assumption))); (case hk => exact kpA); (case he => omega)) | ((first | (apply vI; (case h => assumption)) | (apply vG; (case h => assumption)) | (apply vK; (case h => assumption))); (case hk => exact kpA); (case he => omega); (case hp => omega); (case' g => intro hr_ hc_)) | ((first | (apply vJ; (case h => assumption)) | (apply vH; (case h => assumption)) | (apply vL; (case h => assumption))); (case hk => exact kpA); (case he => omega); (case' g => intro hr_ hc_)) | apply yA | apply yB | ((first | apply zA | apply zC | apply zE | apply zG); (· assumption)) | ((first | apply zB | apply zD | apply zF | apply zH); (· assumption)) | apply zM | apply zN | apply zO | apply zP | apply zQ | apply zR | apply zS | apply zT | apply zU | (apply zV; (· omega)) | (apply zW; (· omega)) | (apply zX; (· (first | omega | (dsimp only; omega)))) | (apply zY; (try (apply zY; apply zX; (· omega))); apply zX; (· omega); apply zX; (· (first | omega | (dsimp only; omega)))) | ((first | apply yJ | apply yK | apply yL | apply yM | apply yN | apply yO); (· exact hgA); (· exact hsA)) | ((first | apply zA | apply zC | apply zE | apply zG); (· omega)) | ((first | apply zB | apply zD | apply zF | apply zH); (· omega)) | ((first | apply zI | apply zK); (· assumption)) | ((first | apply zJ | apply zL); (· assumption)) | fail)
    conv => whnf
    exact h _ hom1 hkp

theorem clip_aux {f : Nat → Nat → Int} {k j : Nat} (i c : Nat) :
    (if i = k ∧ c = j then clipF (f k j) else if i < k ∨ i = k ∧ c < j then clipF (f i c) else f i c) = if i < k ∨ i = k ∧ c < j + 1 then clipF (f i c) else f i c := by
  by_cases h1 : i = k ∧ c = j
  · obtain ⟨rfl, rfl⟩ := h1
    rw [if_pos ⟨rfl, rfl⟩, if_pos (by omega)]
  · rw [if_neg h1]
    by_cases h2 : i < k ∨ i = k ∧ c < j
    · rw [if_pos h2, if_pos (by omega)]
    · rw [if_neg h2, if_neg (by omega)]
theorem mix_c {p : Option Addr} {c : Nat} {l : List (List (List Int))} {H : AHeap} {K : CK} (hl : Bls H p l)
    (h : ∀ H' p' c', H.le H' → Mat H' p' (mixM l) → K (.returned (.tuple #[.slice p' (mixM l).length c', iv (mixE l)])) H') : callS P (fnV 25) [.slice p l.length c] H K := by
  have hll := hl.len
  have bad : ∀ e, mixE l = e → e ≠ 0 → ∀ H', H.le H' → K (.returned (.tuple #[.slice none 0 0, iv e])) H' := fun e he hne H' hle => by
    have hm : mixM l = [] := by unfold mixM; rw [he, if_neg hne]
    have := h H' none 0 hle (by rw [hm]; exact .nil)
    rw [hm, he] at this; exact this
  refine callS_post ?_
  refine callS_walk tt_ok Try.func25 rfl (by kernel_rfl) ?_
  conv => whnf
  repeat' ((conv => whnf); first | ((first | (apply vB; (case h => assumption)) | (apply vA; (case h => assumption)) | (apply vC; (case h => assumption))); (case hk => exact kpA); (case he => omega)) | ((first | (apply vI; (case h => assumption)) | (apply vG; (case h => assumption)) | (apply vK; (case h => assumption))); (case hk => exact kpA); (case he => omega); (case hp => omega); (case' g => intro hr_ hc_)) | ((first | (apply vJ; (case h => assumption)) | (apply vH; (case h => assumption)) | (apply vL; (case h => assumption))); (case hk => exact kpA); (case he => omega); (case' g => intro hr_ hc_)) | (apply drawS_auto mixed tt_ok; (· kernel_rfl)) | apply zZ | apply yA | apply yB | ((first | apply zA | apply zC | apply zE | apply zG); (· assumption)) | ((first | apply zB | apply zD | apply zF | apply zH); (· assumption)) | apply zM | apply zN | apply zO | apply zP | apply zQ | apply zR | apply zS | apply zT | apply zU | (apply zV; (· omega)) | (apply zW; (· omega)) | (apply zX; (· (first | omega | (dsimp only; omega)))) | (apply zY; (try (apply zY; apply zX; (· omega))); apply zX; (· omega); apply zX; (· (first | omega | (dsimp only; omega)))) | ((first | apply yJ | apply yK | apply yL | apply yM | apply yN | apply yO); (· exact hgA); (· exact hsA)) | ((first | apply zA | apply zC | apply zE | apply zG); (· omega)) | ((first | apply zB | apply zD | apply zF | apply zH); (· omega)) | ((first | apply zI | apply zK); (· assumption)) | ((first | apply zJ | apply zL); (· assumption)) | fail)
  conv => whnf
  refine loopS_mask tt_ok (fun (k : Nat) => [.k, .w, .k, .k, .w, .w, .w, .w, .w, .w, .w, .w, .w, .k, .k, .p (iv k), .w, .w, .w, .w, .w, .w, .w, .w, .w, .w, .w, .w, .w, .w, .w, .w, .w, .w, .w, .w, .w, .w, .w, .w, .w, .w, .w, .w, .w, .w, .w, .w, .w, .w, .w, .w, .w, .w, .w, .w, .w, .w, .w, .w, .w, .w, .w, .w, .w, .w, .w, .w, .w, .w, .w, .w, .w, .w, .w, .w, .w, .w, .w, .w, .w, .w, .w, .w, .w, .w, .w, .w, .w, .w, .w, .w, .w, .w, .w, .w, .w, .w, .w, .w, .w, .w]) (fun (k : Nat) => H.push (.cells [iv 0] true 0)) (fun (k : Nat) => k ≤ l.length ∧ (l.take k).all blockB = true) (fun (k : Nat) => l.length - k) (0) (⟨by omega, by simp⟩) ?_ (fun k hk => ?_)
  · conv => whnf
    refine weakH_of (HW.refl _) ?_
    repeat' (first | exact WT.nil | refine WT.same ?_ | refine WT.drop ?_ | refine WT.int (by omega) ?_ | refine WT.eq (by assumption) ?_ | refine WT.bl (by first | assumption | (symm; assumption)) ?_ | refine WT.vv (by assumption) ?_)
  obtain ⟨hk, hv⟩ := hk
  by_cases hlt : k < l.length
  · obtain ⟨i0, off, rfl⟩ := hl.at hlt
    cases hvk : blockB l[k] with
    | false =>
      have hE : mixE l = 1 := by
        have : ¬ l.all blockB = true := fun hh => by
          have := List.all_eq_true.1 hh _ (List.getElem_mem hlt)
          rw [hvk] at this; cases this
        rw [mixE, if_neg this]
      repeat' ((conv => whnf); first | (apply layValid_c; (· exact mtA)) | (apply must_no; (· assumption)) | (apply caught_panic; (· exact hoA); (· exact hgA); intro H2 hle2 hg2) | ((first | (apply vB; (case h => assumption)) | (apply vA; (case h => assumption)) | (apply vC; (case h => assumption))); (case hk => exact kpA); (case he => omega)) | ((first | (apply vI; (case h => assumption)) | (apply vG; (case h => assumption)) | (apply vK; (case h => assumption))); (case hk => exact kpA); (case he => omega); (case hp => omega); (case' g => intro hr_ hc_)) | ((first | (apply vJ; (case h => assumption)) | (apply vH; (case h => assumption)) | (apply vL; (case h => assumption))); (case hk => exact kpA); (case he => omega); (case' g => intro hr_ hc_)) | (apply drawS_auto mixed tt_ok; (· kernel_rfl)) | apply zZ | apply yA | apply yB | ((first | apply zA | apply zC | apply zE | apply zG); (· assumption)) | ((first | apply zB | apply zD | apply zF | apply zH); (· assumption)) | apply zM | apply zN | apply zO | apply zP | apply zQ | apply zR | apply zS | apply zT | apply zU | (apply zV; (· omega)) | (apply zW; (· omega)) | (apply zX; (· (first | omega | (dsimp only; omega)))) | (apply zY; (try (apply zY; apply zX; (· omega))); apply zX; (· omega); apply zX; (· (first | omega | (dsimp only; omega)))) | ((first | apply yJ | apply yK | apply yL | apply yM | apply yN | apply yO); (· exact hgA); (· exact hsA)) | ((first | apply zA | apply zC | apply zE | apply zG); (· omega)) | ((first | apply zB | apply zD | apply zF | apply zH); (· omega)) | ((first | apply zI | apply zK); (· assumption)) | ((first | apply zJ | apply zL); (· assumption)) | fail)
      conv => whnf
      exact ⟨_, HW.refl _, bad 1 hE (by omega) _ (AHeap.le.trans leA hle2)⟩
    | true =>
      repeat' ((conv => whnf); first | (apply layValid_c; (· exact mtA)) | (apply must_ok; (· assumption)) | ((first | (apply vB; (case h => assumption)) | (apply vA; (case h => assumption)) | (apply vC; (case h => assumption))); (case hk => exact kpA); (case he => omega)) | ((first | (apply vI; (case h => assumption)) | (apply vG; (case h => assumption)) | (apply vK; (case h => assumption))); (case hk => exact kpA); (case he => omega); (case hp => omega); (case' g => intro hr_ hc_)) | ((first | (apply vJ; (case h => assumption)) | (apply vH; (case h => assumption)) | (apply vL; (case h => assumption))); (case hk => exact kpA); (case he => omega); (case' g => intro hr_ hc_)) | (apply drawS_auto mixed tt_ok; (· kernel_rfl)) | apply zZ | apply yA | apply yB | ((first | apply zA | apply zC | apply zE | apply zG); (· assumption)) | ((first | apply zB | apply zD | apply zF | apply zH); (· assumption)) | apply zM | apply zN | apply zO | apply zP | apply zQ | apply zR | apply zS | apply zT | apply zU | (apply zV; (· omega)) | (apply zW; (· omega)) | (apply zX; (· (first | omega | (dsimp only; omega)))) | (apply zY; (try (apply zY; apply zX; (· omega))); apply zX; (· omega); apply zX; (· (first | omega | (dsimp only; omega)))) | ((first | apply yJ | apply yK | apply yL | apply yM | apply yN | apply yO); (· exact hgA); (· exact hsA)) | ((first | apply zA | apply zC | apply zE | apply zG); (· omega)) | ((first | apply zB | apply zD | apply zF | apply zH); (· omega)) | ((first | apply zI | apply zK); (· assumption)) | ((first | apply zJ | apply zL); (· assumption)) | fail)
      conv => whnf
      refine ⟨k + 1, ⟨by omega, by rw [take_succ_of hlt, List.all_append, hv]; simp [hvk]⟩, by omega, ?_⟩
      conv => whnf
      refine weakH_of (HW.refl _) ?_
      repeat' (first | exact WT.nil | refine WT.same ?_ | refine WT.drop ?_ | refine WT.int (by omega) ?_ | refine WT.eq (by assumption) ?_ | refine WT.bl (by first | assumption | (symm; assumption)) ?_ | refine WT.vv (by assumption) ?_)
  · have hkn : k = l.length := by omega
    subst hkn
    rw [List.take_length] at hv
    have hb : ∀ (k : Nat) (h : k < l.length), 0 < l[k].length := fun k h => by
      have := (blockB_rows (List.all_eq_true.1 hv _ (List.getElem_mem h))).1; omega
    repeat' ((conv => whnf); first | ((first | (apply vB; (case h => assumption)) | (apply vA; (case h => assumption)) | (apply vC; (case h => assumption))); (case hk => exact kpA); (case he => omega)) | ((first | (apply vI; (case h => assumption)) | (apply vG; (case h => assumption)) | (apply vK; (case h => assumption))); (case hk => exact kpA); (case he => omega); (case hp => omega); (case' g => intro hr_ hc_)) | ((first | (apply vJ; (case h => assumption)) | (apply vH; (case h => assumption)) | (apply vL; (case h => assumption))); (case hk => exact kpA); (case he => omega); (case' g => intro hr_ hc_)) | (apply drawS_auto mixed tt_ok; (· kernel_rfl)) | apply zZ | apply yA | apply yB | ((first | apply zA | apply zC | apply zE | apply zG); (· assumption)) | ((first | apply zB | apply zD | apply zF | apply zH); (· assumption)) | apply zM | apply zN | apply zO | apply zP | apply zQ | apply zR | apply zS | apply zT | apply zU | (apply zV; (· omega)) | (apply zW; (· omega)) | (apply zX; (· (first | omega | (dsimp only; omega)))) | (apply zY; (try (apply zY; apply zX; (· omega))); apply zX; (· omega); apply zX; (· (first | omega | (dsimp only; omega)))) | ((first | apply yJ | apply yK | apply yL | apply yM | apply yN | apply yO); (· exact hgA); (· exact hsA)) | ((first | apply zA | apply zC | apply zE | apply zG); (· omega)) | ((first | apply zB | apply zD | apply zF | apply zH); (· omega)) | ((first | apply zI | apply zK); (· assumption)) | ((first | apply zJ | apply zL); (· assumption)) | fail)
    conv => whnf
    refine loopS_mask tt_ok (fun (k : Nat) => [.k, .w, .k, .k, .w, .w, .w, .w, .w, .w, .w, .w, .w, .w, .w, .w, .w, .w, .w, .w, .w, .w, .w, .k, .k, .p (iv k), .w, .w, .w, .w, .w, .w, .w, .w, .w, .w, .w, .w, .w, .w, .w, .w, .w, .w, .w, .w, .w, .w, .w, .w, .w, .w, .w, .w, .w, .w, .w, .w, .w, .w, .w, .w, .w, .w, .w, .w, .w, .w, .w, .w, .w, .w, .w, .w, .w, .w, .w, .w, .w, .w, .w, .w, .w, .w, .w, .w, .w, .w, .w, .w, .w, .w, .w, .w, .w, .w, .w, .w, .w, .w, .w, .w]) (fun (k : Nat) => H.push (.cells [iv 0] true 0)) (fun (k : Nat) => k ≤ l.length ∧ (l.take k).all (sizeOk l) = true) (fun (k : Nat) => l.length - k) (0) (⟨by omega, by simp⟩) ?_ (fun k hk => ?_)
    · conv => whnf
      refine weakH_of (HW.refl _) ?_
      repeat' (first | exact WT.nil | refine WT.same ?_ | refine WT.drop ?_ | refine WT.int (by omega) ?_ | refine WT.eq (by assumption) ?_ | refine WT.bl (by first | assumption | (symm; assumption)) ?_ | refine WT.vv (by assumption) ?_)
    obtain ⟨hk, hs⟩ := hk
    by_cases hlt : k < l.length
    · obtain ⟨i0, off, rfl⟩ := hl.at hlt
      have h0 : 0 < l.length := by omega
      have hb0 := hb 0 h0
      have hbk := hb k hlt
      have hsz : sizeOk l l[k] = decide (l[k].length = l[0].length ∧ l[k][0].length = l[0][0].length) := by
        have hd : l.headD [] = l[0] := by cases l with
          | nil => simp at h0
          | cons x xs => rfl
        unfold sizeOk framesB
        rw [hd, headD_eq hbk, headD_eq hb0]
      have hE : sizeOk l l[k] = false → mixE l = 11 := fun hf => by
        have : ¬ l.all (sizeOk l) = true := fun hh => by
          have := List.all_eq_true.1 hh _ (List.getElem_mem hlt)
          rw [hf] at this; cases this
        rw [mixE, if_pos hv, if_neg this]
      by_cases a1 : l[k].length = l[0].length
      · by_cases a2 : l[k][0].length = l[0][0].length
        · skip
          repeat' ((conv => whnf); first | (apply must_ok; (· (first | rfl | assumption | exact decide_eq_true (by omega)))) | ((first | (apply vB; (case h => assumption)) | (apply vA; (case h => assumption)) | (apply vC; (case h => assumption))); (case hk => exact kpA); (case he => omega)) | ((first | (apply vI; (case h => assumption)) | (apply vG; (case h => assumption)) | (apply vK; (case h => assumption))); (case hk => exact kpA); (case he => omega); (case hp => omega); (case' g => intro hr_ hc_)) | ((first | (apply vJ; (case h => assumption)) | (apply vH; (case h => assumption)) | (apply vL; (case h => assumption))); (case hk => exact kpA); (case he => omega); (case' g => intro hr_ hc_)) | (apply drawS_auto mixed tt_ok; (· kernel_rfl)) | apply zZ | apply yA | apply yB | ((first | apply zA | apply zC | apply zE | apply zG); (· assumption)) | ((first | apply zB | apply zD | apply zF | apply zH); (· assumption)) | apply zM | apply zN | apply zO | apply zP | apply zQ | apply zR | apply zS | apply zT | apply zU | (apply zV; (· omega)) | (apply zW; (· omega)) | (apply zX; (· (first | omega | (dsimp only; omega)))) | (apply zY; (try (apply zY; apply zX; (· omega))); apply zX; (· omega); apply zX; (· (first | omega | (dsimp only; omega)))) | ((first | apply yJ | apply yK | apply yL | apply yM | apply yN | apply yO); (· exact hgA); (· exact hsA)) | ((first | apply zA | apply zC | apply zE | apply zG); (· omega)) | ((first | apply zB | apply zD | apply zF | apply zH); (· omega)) | ((first | apply zI | apply zK); (· assumption)) | ((first | apply zJ | apply zL); (· assumption)) | fail)
          conv => whnf
          refine ⟨k + 1, ⟨by omega, by rw [take_succ_of hlt, List.all_append, hs]; simp [hsz, a1, a2]⟩, by omega, ?_⟩
          conv => whnf
          refine weakH_of (HW.refl _) ?_
          repeat' (first | exact WT.nil | refine WT.same ?_ | refine WT.drop ?_ | refine WT.int (by omega) ?_ | refine WT.eq (by assumption) ?_ | refine WT.bl (by first | assumption | (symm; assumption)) ?_ | refine WT.vv (by assumption) ?_)
        · skip
          repeat' ((conv => whnf); first | (apply must_no; (· (first | rfl | assumption | exact decide_eq_false (by omega)))) | (apply caught_panic; (· exact hoA); (· exact hgA); intro H2 hle2 hg2) | ((first | (apply vB; (case h => assumption)) | (apply vA; (case h => assumption)) | (apply vC; (case h => assumption))); (case hk => exact kpA); (case he => omega)) | ((first | (apply vI; (case h => assumption)) | (apply vG; (case h => assumption)) | (apply vK; (case h => assumption))); (case hk => exact kpA); (case he => omega); (case hp => omega); (case' g => intro hr_ hc_)) | ((first | (apply vJ; (case h => assumption)) | (apply vH; (case h => assumption)) | (apply vL; (case h => assumption))); (case hk => exact kpA); (case he => omega); (case' g => intro hr_ hc_)) | (apply drawS_auto mixed tt_ok; (· kernel_rfl)) | apply zZ | apply yA | apply yB | ((first | apply zA | apply zC | apply zE | apply zG); (· assumption)) | ((first | apply zB | apply zD | apply zF | apply zH); (· assumption)) | apply zM | apply zN | apply zO | apply zP | apply zQ | apply zR | apply zS | apply zT | apply zU | (apply zV; (· omega)) | (apply zW; (· omega)) | (apply zX; (· (first | omega | (dsimp only; omega)))) | (apply zY; (try (apply zY; apply zX; (· omega))); apply zX; (· omega); apply zX; (· (first | omega | (dsimp only; omega)))) | ((first | apply yJ | apply yK | apply yL | apply yM | apply yN | apply yO); (· exact hgA); (· exact hsA)) | ((first | apply zA | apply zC | apply zE | apply zG); (· omega)) | ((first | apply zB | apply zD | apply zF | apply zH); (· omega)) | ((first | apply zI | apply zK); (· assumption)) | ((first | apply zJ | apply zL); (· assumption)) | fail)
          conv => whnf
          exact ⟨_, HW.refl _, bad 11 (hE (by simp [hsz, a2])) (by omega) _ (AHeap.le.trans leA hle2)⟩
      · skip
        repeat' ((conv => whnf); first | (apply must_no; (· (first | rfl | assumption | exact decide_eq_false (by omega)))) | (apply caught_panic; (· exact hoA); (· exact hgA); intro H2 hle2 hg2) | ((first | (apply vB; (case h => assumption)) | (apply vA; (case h => assumption)) | (apply vC; (case h => assumption))); (case hk => exact kpA); (case he => omega)) | ((first | (apply vI; (case h => assumption)) | (apply vG; (case h => assumption)) | (apply vK; (case h => assumption))); (case hk => exact kpA); (case he => omega); (case hp => omega); (case' g => intro hr_ hc_)) | ((first | (apply vJ; (case h => assumption)) | (apply vH; (case h => assumption)) | (apply vL; (case h => assumption))); (case hk => exact kpA); (case he => omega); (case' g => intro hr_ hc_)) | (apply drawS_auto mixed tt_ok; (· kernel_rfl)) | apply zZ | apply yA | apply yB | ((first | apply zA | apply zC | apply zE | apply zG); (· assumption)) | ((first | apply zB | apply zD | apply zF | apply zH); (· assumption)) | apply zM | apply zN | apply zO | apply zP | apply zQ | apply zR | apply zS | apply zT | apply zU | (apply zV; (· omega)) | (apply zW; (· omega)) | (apply zX; (· (first | omega | (dsimp only; omega)))) | (apply zY; (try (apply zY; apply zX; (· omega))); apply zX; (· omega); apply zX; (· (first | omega | (dsimp only; omega)))) | ((first | apply yJ | apply yK | apply yL | apply yM | apply yN | apply yO); (· exact hgA); (· exact hsA)) | ((first | apply zA | apply zC | apply zE | apply zG); (· omega)) | ((first | apply zB | apply zD | apply zF | apply zH); (· omega)) | ((first | apply zI | apply zK); (· assumption)) | ((first | apply zJ | apply zL); (· assumption)) | fail)
        conv => whnf
        exact ⟨_, HW.refl _, bad 11 (hE (by simp [hsz, a1])) (by omega) _ (AHeap.le.trans leA hle2)⟩
    · have hkn : k = l.length := by omega
      subst hkn
      rw [List.take_length] at hs
      by_cases h0 : 0 < l.length
      · by_cases h40 : l.length ≤ 40
        · obtain ⟨i0, off, rfl⟩ := hl.at h0
          have hb0 := hb 0 h0
          have hE := mixE_cases hv hs h0 h40
          have hM := mixM_eq hE h0 hb0
          have ha := alike0 hv hs h0 hb0
          rw [hM, hE, matF_len] at h
          obtain ⟨hn1, hn8⟩ := ha.hn
          have hL4 := ha.hL
          repeat' ((conv => whnf); first | (apply must_ok; (· (first | rfl | assumption | exact decide_eq_true (by omega)))) | refine silent_c (n := l[0].length) (m := l[0][0].length) ⟨hn1, hn8, hL4⟩ (fun H1 o rs hle hom => ?_) | refine foldedB_c (hl.kp kpA) ha hv h40 (by assumption) (fun H2 hom2 hkp2 => ?_) | ((first | (apply vB; (case h => assumption)) | (apply vA; (case h => assumption)) | (apply vC; (case h => assumption))); (case hk => exact kpA); (case he => omega)) | ((first | (apply vI; (case h => assumption)) | (apply vG; (case h => assumption)) | (apply vK; (case h => assumption))); (case hk => exact kpA); (case he => omega); (case hp => omega); (case' g => intro hr_ hc_)) | ((first | (apply vJ; (case h => assumption)) | (apply vH; (case h => assumption)) | (apply vL; (case h => assumption))); (case hk => exact kpA); (case he => omega); (case' g => intro hr_ hc_)) | (apply drawS_auto mixed tt_ok; (· kernel_rfl)) | apply zZ | apply yA | apply yB | ((first | apply zA | apply zC | apply zE | apply zG); (· assumption)) | ((first | apply zB | apply zD | apply zF | apply zH); (· assumption)) | apply zM | apply zN | apply zO | apply zP | apply zQ | apply zR | apply zS | apply zT | apply zU | (apply zV; (· omega)) | (apply zW; (· omega)) | (apply zX; (· (first | omega | (dsimp only; omega)))) | (apply zY; (try (apply zY; apply zX; (· omega))); apply zX; (· omega); apply zX; (· (first | omega | (dsimp only; omega)))) | ((first | apply yJ | apply yK | apply yL | apply yM | apply yN | apply yO); (· exact hgA); (· exact hsA)) | ((first | apply zA | apply zC | apply zE | apply zG); (· omega)) | ((first | apply zB | apply zD | apply zF | apply zH); (· omega)) | ((first | apply zI | apply zK); (· assumption)) | ((first | apply zJ | apply zL); (· assumption)) | fail)
          conv => whnf
          have hle2 := hkp2.le _ (by simp) hle
          refine loopS_mask tt_ok (fun (k : Nat × AHeap) => [.w, .w, .k, .k, .w, .w, .w, .w, .k, .w, .w, .w, .w, .w, .w, .w, .w, .w, .w, .w, .w, .w, .w, .w, .w, .w, .w, .w, .w, .w, .w, .w, .w, .w, .w, .w, .w, .w, .w, .w, .w, .w, .w, .w, .w, .w, .w, .w, .w, .w, .w, .w, .w, .w, .w, .w, .w, .w, .w, .w, .w, .w, .w, .w, .w, .w, .w, .w, .w, .w, .w, .w, .w, .w, .w, .w, .w, .k, .p (iv k.1), .w, .w, .w, .w, .w, .w, .w, .w, .w, .w, .w, .w, .w, .w, .w, .w, .w, .w, .w, .w, .w, .w, .w]) (fun (k : Nat × AHeap) => k.2) (fun (k : Nat × AHeap) => k.1 ≤ l[0].length ∧ (H.push (.cells [iv 0] true 0)).le k.2 ∧ OMat k.2 (H.size + 1) o rs (matF (fun i c => if i < k.1 then clipF (sumAt l i c) else sumAt l i c) l[0].length l[0][0].length) []) (fun (k : Nat × AHeap) => l[0].length - k.1) (⟨0, H2⟩) (⟨by omega, hle2, hom2.cast _ (fun i hi c hc => by simp)⟩) ?_ (fun k hk => ?_)
          · conv => whnf
            refine weakH_of (HW.refl _) ?_
            repeat' (first | exact WT.nil | refine WT.same ?_ | refine WT.drop ?_ | refine WT.int (by omega) ?_ | refine WT.eq (by assumption) ?_ | refine WT.bl (by first | assumption | (symm; assumption)) ?_ | refine WT.vv (by assumption) ?_)
          obtain ⟨k, H3⟩ := k
          obtain ⟨hk, hle3, hom3⟩ := hk
          dsimp only at hk hle3 hom3 ⊢
          by_cases hlt : k < l[0].length
          · skip
            repeat' ((conv => whnf); first | refine hom3.row hlt ?_ | ((first | (apply vB; (case h => assumption)) | (apply vA; (case h => assumption)) | (apply vC; (case h => assumption))); (case hk => exact kpA); (case he => omega)) | ((first | (apply vI; (case h => assumption)) | (apply vG; (case h => assumption)) | (apply vK; (case h => assumption))); (case hk => exact kpA); (case he => omega); (case hp => omega); (case' g => intro hr_ hc_)) | ((first | (apply vJ; (case h => assumption)) | (apply vH; (case h => assumption)) | (apply vL; (case h => assumption))); (case hk => exact kpA); (case he => omega); (case' g => intro hr_ hc_)) | (apply drawS_auto mixed tt_ok; (· kernel_rfl)) | apply zZ | apply yA | apply yB | ((first | apply zA | apply zC | apply zE | apply zG); (· assumption)) | ((first | apply zB | apply zD | apply zF | apply zH); (· assumption)) | apply zM | apply zN | apply zO | apply zP | apply zQ | apply zR | apply zS | apply zT | apply zU | (apply zV; (· omega)) | (apply zW; (· omega)) | (apply zX; (· (first | omega | (dsimp only; omega)))) | (apply zY; (try (apply zY; apply zX; (· omega))); apply zX; (· omega); apply zX; (· (first | omega | (dsimp only; omega)))) | ((first | apply yJ | apply yK | apply yL | apply yM | apply yN | apply yO); (· exact hgA); (· exact hsA)) | ((first | apply zA | apply zC | apply zE | apply zG); (· omega)) | ((first | apply zB | apply zD | apply zF | apply zH); (· omega)) | ((first | apply zI | apply zK); (· assumption)) | ((first | apply zJ | apply zL); (· assumption)) | fail)
            conv => whnf
            refine loopS_mask tt_ok (fun (j : Nat × AHeap) => [.w, .w, .k, .k, .w, .w, .w, .w, .k, .w, .k, .w, .w, .w, .w, .w, .w, .w, .w, .w, .w, .w, .w, .w, .w, .w, .w, .w, .w, .w, .w, .w, .w, .w, .w, .w, .w, .w, .w, .w, .w, .w, .w, .w, .w, .w, .w, .w, .w, .w, .w, .w, .w, .w, .w, .w, .w, .w, .w, .w, .w, .w, .w, .w, .w, .w, .w, .w, .w, .w, .w, .w, .w, .w, .w, .w, .w, .k, .k, .w, .w, .w, .w, .w, .k, .k, .p (iv j.1), .w, .w, .w, .w, .w, .w, .w, .w, .w, .w, .w, .w, .w, .w, .w]) (fun (j : Nat × AHeap) => j.2) (fun (j : Nat × AHeap) => j.1 ≤ l[0][0].length ∧ (H.push (.cells [iv 0] true 0)).le j.2 ∧ OMat j.2 (H.size + 1) o rs (matF (fun i c => if i < k ∨ (i = k ∧ c < j.1) then clipF (sumAt l i c) else sumAt l i c) l[0].length l[0][0].length) []) (fun (j : Nat × AHeap) => l[0][0].length - j.1) (⟨0, H3⟩) (⟨by omega, hle3, hom3.cast _ (fun i hi c hc => by simp)⟩) ?_ (fun j hj => ?_)
            · conv => whnf
              refine weakH_of (HW.refl _) ?_
              repeat' (first | exact WT.nil | refine WT.same ?_ | refine WT.drop ?_ | refine WT.int (by omega) ?_ | refine WT.eq (by assumption) ?_ | refine WT.bl (by first | assumption | (symm; assumption)) ?_ | refine WT.vv (by assumption) ?_)
            obtain ⟨j, H4⟩ := j
            obtain ⟨hj, hle4, hom4⟩ := hj
            dsimp only at hj hle4 hom4 ⊢
            by_cases hlj : j < l[0][0].length
            · have e1 : (if k < k ∨ k = k ∧ j < j then clipF (sumAt l k j) else sumAt l k j) = sumAt l k j := by simp
              have hsb := sumAt_bd l hv k j
              repeat' ((conv => whnf); first | refine hom4.at hlt hlj ?_; rw [e1] | refine hom4.row hlt ?_ | (apply bounded_c; (· omega)) | refine hom4.put2 hlt hlj (fun i c => if i < k ∨ (i = k ∧ c < j + 1) then clipF (sumAt l i c) else sumAt l i c) (fun i hi c hc => ?_) (fun H5 hom5 hkp5 => ?_); exact clip_aux i c | ((first | (apply vB; (case h => assumption)) | (apply vA; (case h => assumption)) | (apply vC; (case h => assumption))); (case hk => exact kpA); (case he => omega)) | ((first | (apply vI; (case h => assumption)) | (apply vG; (case h => assumption)) | (apply vK; (case h => assumption))); (case hk => exact kpA); (case he => omega); (case hp => omega); (case' g => intro hr_ hc_)) | ((first | (apply vJ; (case h => assumption)) | (apply vH; (case h => assumption)) | (apply vL; (case h => assumption))); (case hk => exact kpA); (case he => omega); (case' g => intro hr_ hc_)) | (apply drawS_auto mixed tt_ok; (· kernel_rfl)) | apply zZ | apply yA | apply yB | ((first | apply zA | apply zC | apply zE | apply zG); (· assumption)) | ((first | apply zB | apply zD | apply zF | apply zH); (· assumption)) | apply zM | apply zN | apply zO | apply zP | apply zQ | apply zR | apply zS | apply zT | apply zU | (apply zV; (· omega)) | (apply zW; (· omega)) | (apply zX; (· (first | omega | (dsimp only; omega)))) | (apply zY; (try (apply zY; apply zX; (· omega))); apply zX; (· omega); apply zX; (· (first | omega | (dsimp only; omega)))) | ((first | apply yJ | apply yK | apply yL | apply yM | apply yN | apply yO); (· exact hgA); (· exact hsA)) | ((first | apply zA | apply zC | apply zE | apply zG); (· omega)) | ((first | apply zB | apply zD | apply zF | apply zH); (· omega)) | ((first | apply zI | apply zK); (· assumption)) | ((first | apply zJ | apply zL); (· assumption)) | fail)
              conv => whnf
              apply Exists.intro (j + 1, H5)
              refine ⟨?inv, ?mu, ?wk⟩
              case wk =>
                conv => whnf
                refine weakH_of (HW.refl _) ?_
                repeat' (first | exact WT.nil | refine WT.same ?_ | refine WT.drop ?_ | refine WT.int (by omega) ?_ | refine WT.eq (by assumption) ?_ | refine WT.bl (by first | assumption | (symm; assumption)) ?_ | refine WT.vv (by assumption) ?_)
              case mu => first | omega | (dsimp only; omega)
              case inv => exact ⟨by omega, hkp5.le _ (by simp) hle4, hom5⟩
            · have hjl : j = l[0][0].length := by omega
              subst hjl
              repeat' ((conv => whnf); first | ((first | (apply vB; (case h => assumption)) | (apply vA; (case h => assumption)) | (apply vC; (case h => assumption))); (case hk => exact kpA); (case he => omega)) | ((first | (apply vI; (case h => assumption)) | (apply vG; (case h => assumption)) | (apply vK; (case h => assumption))); (case hk => exact kpA); (case he => omega); (case hp => omega); (case' g => intro hr_ hc_)) | ((first | (apply vJ; (case h => assumption)) | (apply vH; (case h => assumption)) | (apply vL; (case h => assumption))); (case hk => exact kpA); (case he => omega); (case' g => intro hr_ hc_)) | (apply drawS_auto mixed tt_ok; (· kernel_rfl)) | apply zZ | apply yA | apply yB | ((first | apply zA | apply zC | apply zE | apply zG); (· assumption)) | ((first | apply zB | apply zD | apply zF | apply zH); (· assumption)) | apply zM | apply zN | apply zO | apply zP | apply zQ | apply zR | apply zS | apply zT | apply zU | (apply zV; (· omega)) | (apply zW; (· omega)) | (apply zX; (· (first | omega | (dsimp only; omega)))) | (apply zY; (try (apply zY; apply zX; (· omega))); apply zX; (· omega); apply zX; (· (first | omega | (dsimp only; omega)))) | ((first | apply yJ | apply yK | apply yL | apply yM | apply yN | apply yO); (· exact hgA); (· exact hsA)) | ((first | apply zA | apply zC | apply zE | apply zG); (· omega)) | ((first | apply zB | apply zD | apply zF | apply zH); (· omega)) | ((first | apply zI | apply zK); (· assumption)) | ((first | apply zJ | apply zL); (· assumption)) | fail)
              conv => whnf
              apply Exists.intro (k + 1, H4)
              refine ⟨?inv, ?mu, ?wk⟩
              case wk =>
                conv => whnf
                refine weakH_of (HW.refl _) ?_
                repeat' (first | exact WT.nil | refine WT.same ?_ | refine WT.drop ?_ | refine WT.int (by omega) ?_ | refine WT.eq (by assumption) ?_ | refine WT.bl (by first | assumption | (symm; assumption)) ?_ | refine WT.vv (by assumption) ?_)
              case mu => first | omega | (dsimp only; omega)
              case inv => exact ⟨by omega, hle4, hom4.cast _ (fun i hi c hc => by
                have : (i < k ∨ i = k ∧ c < l[0][0].length) ↔ i < k + 1 := by omega
                simp [this])⟩
          · have hkn : k = l[0].length := by omega
            subst hkn
            have ge : H3.get H.size = some (.cells [iv 0] true 0) := (hle3.get _ (by simp)).trans hgA
            have hs3 : H.size + 1 ≤ H3.size := hle3.size
            repeat' ((conv => whnf); first | (apply caught_ret; (· exact hoA); (· exact hgA); intro H5 hle5 hg5) | ((first | (apply vB; (case h => assumption)) | (apply vA; (case h => assumption)) | (apply vC; (case h => assumption))); (case hk => exact kpA); (case he => omega)) | ((first | (apply vI; (case h => assumption)) | (apply vG; (case h => assumption)) | (apply vK; (case h => assumption))); (case hk => exact kpA); (case he => omega); (case hp => omega); (case' g => intro hr_ hc_)) | ((first | (apply vJ; (case h => assumption)) | (apply vH; (case h => assumption)) | (apply vL; (case h => assumption))); (case hk => exact kpA); (case he => omega); (case' g => intro hr_ hc_)) | (apply drawS_auto mixed tt_ok; (· kernel_rfl)) | apply zZ | apply yA | apply yB | ((first | apply zA | apply zC | apply zE | apply zG); (· assumption)) | ((first | apply zB | apply zD | apply zF | apply zH); (· assumption)) | apply zM | apply zN | apply zO | apply zP | apply zQ | apply zR | apply zS | apply zT | apply zU | (apply zV; (· omega)) | (apply zW; (· omega)) | (apply zX; (· (first | omega | (dsimp only; omega)))) | (apply zY; (try (apply zY; apply zX; (· omega))); apply zX; (· omega); apply zX; (· (first | omega | (dsimp only; omega)))) | ((first | apply yJ | apply yK | apply yL | apply yM | apply yN | apply yO); (· exact hgA); (· exact hsA)) | ((first | apply zA | apply zC | apply zE | apply zG); (· omega)) | ((first | apply zB | apply zD | apply zF | apply zH); (· omega)) | ((first | apply zI | apply zK); (· assumption)) | ((first | apply zJ | apply zL); (· assumption)) | fail)
            conv => whnf
            have hom5 := (hom3.set_lo (by omega) _).le hle5
            have hom6 := hom5.cast (fun k i => clipF (sumAt l k i)) (fun i hi c hc => by simp [hi])
            refine ⟨_, HW.fz _ H.size, h _ _ _ (AHeap.le.fz ?_ (Nat.le_refl _)) (hom6.fzF (by omega) (by unfold maxN; omega) (by unfold maxN; omega) (fun i _ c _ => ?_))⟩
            · refine AHeap.le.trans ?_ hle5
              have : H.le H3 := AHeap.le.trans (AHeap.le_push _ _) hle3
              (repeat (first | exact AHeap.le.refl _ | assumption | refine AHeap.le.push ?_ _ | refine AHeap.le.set ?_ hoA _ | refine AHeap.le.kill ?_ hoA))
            · unfold inR clipF; omega
        · skip
          repeat' ((conv => whnf); first | (apply must_ok; (· (first | rfl | assumption | exact decide_eq_true (by omega)))) | (apply must_no; (· (first | rfl | assumption | exact decide_eq_false (by omega)))) | (apply caught_panic; (· exact hoA); (· exact hgA); intro H2 hle2 hg2) | ((first | (apply vB; (case h => assumption)) | (apply vA; (case h => assumption)) | (apply vC; (case h => assumption))); (case hk => exact kpA); (case he => omega)) | ((first | (apply vI; (case h => assumption)) | (apply vG; (case h => assumption)) | (apply vK; (case h => assumption))); (case hk => exact kpA); (case he => omega); (case hp => omega); (case' g => intro hr_ hc_)) | ((first | (apply vJ; (case h => assumption)) | (apply vH; (case h => assumption)) | (apply vL; (case h => assumption))); (case hk => exact kpA); (case he => omega); (case' g => intro hr_ hc_)) | (apply drawS_auto mixed tt_ok; (· kernel_rfl)) | apply zZ | apply yA | apply yB | ((first | apply zA | apply zC | apply zE | apply zG); (· assumption)) | ((first | apply zB | apply zD | apply zF | apply zH); (· assumption)) | apply zM | apply zN | apply zO | apply zP | apply zQ | apply zR | apply zS | apply zT | apply zU | (apply zV; (· omega)) | (apply zW; (· omega)) | (apply zX; (· (first | omega | (dsimp only; omega)))) | (apply zY; (try (apply zY; apply zX; (· omega))); apply zX; (· omega); apply zX; (· (first | omega | (dsimp only; omega)))) | ((first | apply yJ | apply yK | apply yL | apply yM | apply yN | apply yO); (· exact hgA); (· exact hsA)) | ((first | apply zA | apply zC | apply zE | apply zG); (· omega)) | ((first | apply zB | apply zD | apply zF | apply zH); (· omega)) | ((first | apply zI | apply zK); (· assumption)) | ((first | apply zJ | apply zL); (· assumption)) | fail)
          conv => whnf
          exact ⟨_, HW.refl _, bad 4 (by rw [mixE, if_pos hv, if_pos hs, if_neg (by intro e; simp [e] at h0), if_neg h40]) (by omega) _ (AHeap.le.trans leA hle2)⟩
      · have e : l = [] := List.eq_nil_of_length_eq_zero (by omega)
        subst e
        repeat' ((conv => whnf); first | (apply must_no; (· (first | rfl | assumption | exact decide_eq_false (by omega)))) | (apply caught_panic; (· exact hoA); (· exact hgA); intro H2 hle2 hg2) | ((first | (apply vB; (case h => assumption)) | (apply vA; (case h => assumption)) | (apply vC; (case h => assumption))); (case hk => exact kpA); (case he => omega)) | ((first | (apply vI; (case h => assumption)) | (apply vG; (case h => assumption)) | (apply vK; (case h => assumption))); (case hk => exact kpA); (case he => omega); (case hp => omega); (case' g => intro hr_ hc_)) | ((first | (apply vJ; (case h => assumption)) | (apply vH; (case h => assumption)) | (apply vL; (case h => assumption))); (case hk => exact kpA); (case he => omega); (case' g => intro hr_ hc_)) | (apply drawS_auto mixed tt_ok; (· kernel_rfl)) | apply zZ | apply yA | apply yB | ((first | apply zA | apply zC | apply zE | apply zG); (· assumption)) | ((first | apply zB | apply zD | apply zF | apply zH); (· assumption)) | apply zM | apply zN | apply zO | apply zP | apply zQ | apply zR | apply zS | apply zT | apply zU | (apply zV; (· omega)) | (apply zW; (· omega)) | (apply zX; (· (first | omega | (dsimp only; omega)))) | (apply zY; (try (apply zY; apply zX; (· omega))); apply zX; (· omega); apply zX; (· (first | omega | (dsimp only; omega)))) | ((first | apply yJ | apply yK | apply yL | apply yM | apply yN | apply yO); (· exact hgA); (· exact hsA)) | ((first | apply zA | apply zC | apply zE | apply zG); (· omega)) | ((first | apply zB | apply zD | apply zF | apply zH); (· omega)) | ((first | apply zI | apply zK); (· assumption)) | ((first | apply zJ | apply zL); (· assumption)) | fail)
        conv => whnf
        exact ⟨_, HW.refl _, bad 8 (by simp [mixE]) (by omega) _ (AHeap.le.trans leA hle2)⟩
end Go.Abs
