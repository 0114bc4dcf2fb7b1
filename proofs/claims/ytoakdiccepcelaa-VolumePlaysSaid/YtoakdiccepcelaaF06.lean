/- Contracts of the program's Push. No conditions beyond those stated. -/
import Derived.Test.YtoakdiccepcelaaE06
set_option linter.all false
set_option maxHeartbeats 2000000
set_option maxRecDepth 20000
namespace Go.Abs
open Go Go.Proofs

theorem part4_get {c : List Value} {off : Nat} {w x y z : Value} (h : (c.drop off).take 4 = [w, x, y, z]) : c[off + 2]? = some y ∧ c[off + 3]? = some z := by
  constructor
  · have : ((c.drop off).take 4)[2]? = some y := by rw [h]; rfl
    rw [List.getElem?_take_of_lt (by omega), List.getElem?_drop] at this
    exact this
  · have : ((c.drop off).take 4)[3]? = some z := by rw [h]; rfl
    rw [List.getElem?_take_of_lt (by omega), List.getElem?_drop] at this
    exact this
theorem gains2_c {y : Value} {n b1 b2 ob off : Nat} {a b fr i0 : Int} {H : AHeap} {K : CK} (CC : Nat → List Value) (I : AHeap → Nat → AHeap → Prop) (hn : n ≤ 1000000) (ha : isGain a) (hb : isGain b) (hfr : 0 ≤ fr ∧ fr ≤ 1000000000) (hi0 : 0 ≤ i0 ∧ i0 ≤ fr)
    (hCC : ∀ k, k < n → (off + 4 ≤ (CC k).length ∧ ((CC k).drop off).take 4 = [iv a, iv b, iv fr, iv (min (i0 + k) fr)]) ∧ (CC k).set (off + 3) (iv (min (i0 + k + 1) fr)) = CC (k + 1))
    (hI : ∀ k H1, I H k H1 → H1.get b2 = some (.cells [.pointer (some ⟨ob, off, none⟩)] true 0) ∧ H1.get ob = some (.cells (CC k) true 6))
    (hb1 : H.get b1 = some (.cells [iv n] true 0)) (h0 : I H 0 H)
    (step : ∀ k H1 K1, k < n → I H k H1 → (∀ H2, I H (k + 1) H2 → K1 (.returned (.bool true)) H2) → callS P y [iv k, iv (nowF a b fr (min (i0 + k) fr))] (H1.set ob (.cells (CC (k + 1)) true 6)) K1)
    (h : ∀ H', I H n H' → K (.returned (.tuple #[])) H') : callS P (.func (.func 86) #[] #[.pointer (some ⟨b1, 0, none⟩), .pointer (some ⟨b2, 0, none⟩)]) [y] H K := by
  refine callS_walk tt_ok Try.func86 rfl (by kernel_rfl) ?_
  conv => whnf
  repeat' ((conv => whnf); first | ((first | (apply vB; (case h => with_reducible assumption)) | (apply vA; (case h => with_reducible assumption)) | (apply vC; (case h => with_reducible assumption))); (case hk => exact kpA); (case he => omega)) | ((first | (apply vI; (case h => with_reducible assumption)) | (apply vG; (case h => with_reducible assumption)) | (apply vK; (case h => with_reducible assumption))); (case hk => exact kpA); (case he => omega); (case hp => omega); (case' g => intro hr_ hc_)) | ((first | (apply vJ; (case h => with_reducible assumption)) | (apply vH; (case h => with_reducible assumption)) | (apply vL; (case h => with_reducible assumption))); (case hk => exact kpA); (case he => omega); (case' g => intro hr_ hc_)) | (apply drawS_auto mixed tt_ok; (· kernel_rfl)) | apply zZ | apply yA | apply yB | ((first | apply zA | apply zC | apply zE | apply zG); (· with_reducible assumption)) | ((first | apply zB | apply zD | apply zF | apply zH); (· with_reducible assumption)) | apply zM | apply zN | apply zO | apply zP | apply zQ | apply zR | apply zS | apply zT | apply zU | (apply zV; (· omega)) | (apply zW; (· omega)) | (apply zX; (· (first | omega | (dsimp only; omega)))) | (apply zY; (try (apply zY; apply zX; (· omega))); apply zX; (· omega); apply zX; (· (first | omega | (dsimp only; omega)))) | ((first | apply yJ | apply yK | apply yL | apply yM | apply yN | apply yO); (· exact hgA); (· exact hsA)) | (apply yNP; (· exact hgA); (· exact hsA)) | ((first | apply zA | apply zC | apply zE | apply zG); (· omega)) | ((first | apply zB | apply zD | apply zF | apply zH); (· omega)) | ((first | apply zI | apply zK); (· with_reducible assumption)) | ((first | apply zJ | apply zL); (· with_reducible assumption)) | fail)
  conv => whnf
  refine loopS_mask tt_ok (fun (k : Nat × AHeap) => [.k, .w, .k, .w, .w, .w, .k, .p (iv k.1), .w, .w, .w, .w, .w, .w, .w, .w, .w, .w, .w, .w, .w, .w, .w, .w, .w, .w, .w, .w, .w, .w, .w, .w, .w]) (fun (k : Nat × AHeap) => k.2) (fun (k : Nat × AHeap) => k.1 ≤ n ∧ I H k.1 k.2) (fun (k : Nat × AHeap) => n - k.1) (⟨0, H⟩) (⟨by omega, h0⟩) ?_ (fun k hk => ?_)
  · conv => whnf
    refine weakH_of (HW.refl _) ?_
    repeat' (first | exact WT.nil | refine WT.same ?_ | refine WT.drop ?_ | refine WT.int (by omega) ?_ | refine WT.eq (by assumption) ?_ | refine WT.bl (by first | assumption | (symm; assumption)) ?_ | refine WT.vv (by assumption) ?_)
  obtain ⟨k, H1⟩ := k
  obtain ⟨hk, hI1⟩ := hk
  dsimp only at hk hI1 ⊢
  obtain ⟨g1, g2⟩ := hI k H1 hI1
  by_cases hlt : k < n
  · obtain ⟨hc, hset⟩ := hCC k hlt
    obtain ⟨q2, q3⟩ := part4_get hc.2
    have hl3 : off + 3 < (CC k).length := by have := hc.1; omega
    have hset2 : (CC k).set (off + 3) (iv (min (min (i0 + k) fr + 1) fr)) = CC (k + 1) := by
      have e : min (min (i0 + k) fr + 1) fr = min (i0 + k + 1) fr := by omega
      rw [e]
      exact hset
    repeat' ((conv => whnf); first | refine hl_loadsP g2 hc ?_ | (refine now_c ha hb hfr ?_ ?_; (· omega)) | refine loadK_get g2 q3 ?_ | refine loadK_get g2 q2 ?_ | refine storeK_at g2 hl3 hset2 ?_ | ((first | (apply vB; (case h => with_reducible assumption)) | (apply vA; (case h => with_reducible assumption)) | (apply vC; (case h => with_reducible assumption))); (case hk => exact kpA); (case he => omega)) | ((first | (apply vI; (case h => with_reducible assumption)) | (apply vG; (case h => with_reducible assumption)) | (apply vK; (case h => with_reducible assumption))); (case hk => exact kpA); (case he => omega); (case hp => omega); (case' g => intro hr_ hc_)) | ((first | (apply vJ; (case h => with_reducible assumption)) | (apply vH; (case h => with_reducible assumption)) | (apply vL; (case h => with_reducible assumption))); (case hk => exact kpA); (case he => omega); (case' g => intro hr_ hc_)) | (apply drawS_auto mixed tt_ok; (· kernel_rfl)) | apply zZ | apply yA | apply yB | ((first | apply zA | apply zC | apply zE | apply zG); (· with_reducible assumption)) | ((first | apply zB | apply zD | apply zF | apply zH); (· with_reducible assumption)) | apply zM | apply zN | apply zO | apply zP | apply zQ | apply zR | apply zS | apply zT | apply zU | (apply zV; (· omega)) | (apply zW; (· omega)) | (apply zX; (· (first | omega | (dsimp only; omega)))) | (apply zY; (try (apply zY; apply zX; (· omega))); apply zX; (· omega); apply zX; (· (first | omega | (dsimp only; omega)))) | ((first | apply yJ | apply yK | apply yL | apply yM | apply yN | apply yO); (· exact hgA); (· exact hsA)) | (apply yNP; (· exact hgA); (· exact hsA)) | ((first | apply zA | apply zC | apply zE | apply zG); (· omega)) | ((first | apply zB | apply zD | apply zF | apply zH); (· omega)) | ((first | apply zI | apply zK); (· with_reducible assumption)) | ((first | apply zJ | apply zL); (· with_reducible assumption)) | fail)
    conv => whnf
    refine step k H1 _ hlt hI1 (fun H2 hI2 => ?_)
    repeat' ((conv => whnf); first | ((first | (apply vB; (case h => with_reducible assumption)) | (apply vA; (case h => with_reducible assumption)) | (apply vC; (case h => with_reducible assumption))); (case hk => exact kpA); (case he => omega)) | ((first | (apply vI; (case h => with_reducible assumption)) | (apply vG; (case h => with_reducible assumption)) | (apply vK; (case h => with_reducible assumption))); (case hk => exact kpA); (case he => omega); (case hp => omega); (case' g => intro hr_ hc_)) | ((first | (apply vJ; (case h => with_reducible assumption)) | (apply vH; (case h => with_reducible assumption)) | (apply vL; (case h => with_reducible assumption))); (case hk => exact kpA); (case he => omega); (case' g => intro hr_ hc_)) | (apply drawS_auto mixed tt_ok; (· kernel_rfl)) | apply zZ | apply yA | apply yB | ((first | apply zA | apply zC | apply zE | apply zG); (· with_reducible assumption)) | ((first | apply zB | apply zD | apply zF | apply zH); (· with_reducible assumption)) | apply zM | apply zN | apply zO | apply zP | apply zQ | apply zR | apply zS | apply zT | apply zU | (apply zV; (· omega)) | (apply zW; (· omega)) | (apply zX; (· (first | omega | (dsimp only; omega)))) | (apply zY; (try (apply zY; apply zX; (· omega))); apply zX; (· omega); apply zX; (· (first | omega | (dsimp only; omega)))) | ((first | apply yJ | apply yK | apply yL | apply yM | apply yN | apply yO); (· exact hgA); (· exact hsA)) | (apply yNP; (· exact hgA); (· exact hsA)) | ((first | apply zA | apply zC | apply zE | apply zG); (· omega)) | ((first | apply zB | apply zD | apply zF | apply zH); (· omega)) | ((first | apply zI | apply zK); (· with_reducible assumption)) | ((first | apply zJ | apply zL); (· with_reducible assumption)) | fail)
    conv => whnf
    refine ⟨(k + 1, H2), ⟨by omega, hI2⟩, by omega, ?_⟩
    conv => whnf
    refine weakH_of (HW.refl _) ?_
    repeat' (first | exact WT.nil | refine WT.same ?_ | refine WT.drop ?_ | refine WT.int (by omega) ?_ | refine WT.eq (by assumption) ?_ | refine WT.bl (by first | assumption | (symm; assumption)) ?_ | refine WT.vv (by assumption) ?_)
  · have hkn : k = n := by omega
    subst hkn
    repeat' ((conv => whnf); first | ((first | (apply vB; (case h => with_reducible assumption)) | (apply vA; (case h => with_reducible assumption)) | (apply vC; (case h => with_reducible assumption))); (case hk => exact kpA); (case he => omega)) | ((first | (apply vI; (case h => with_reducible assumption)) | (apply vG; (case h => with_reducible assumption)) | (apply vK; (case h => with_reducible assumption))); (case hk => exact kpA); (case he => omega); (case hp => omega); (case' g => intro hr_ hc_)) | ((first | (apply vJ; (case h => with_reducible assumption)) | (apply vH; (case h => with_reducible assumption)) | (apply vL; (case h => with_reducible assumption))); (case hk => exact kpA); (case he => omega); (case' g => intro hr_ hc_)) | (apply drawS_auto mixed tt_ok; (· kernel_rfl)) | apply zZ | apply yA | apply yB | ((first | apply zA | apply zC | apply zE | apply zG); (· with_reducible assumption)) | ((first | apply zB | apply zD | apply zF | apply zH); (· with_reducible assumption)) | apply zM | apply zN | apply zO | apply zP | apply zQ | apply zR | apply zS | apply zT | apply zU | (apply zV; (· omega)) | (apply zW; (· omega)) | (apply zX; (· (first | omega | (dsimp only; omega)))) | (apply zY; (try (apply zY; apply zX; (· omega))); apply zX; (· omega); apply zX; (· (first | omega | (dsimp only; omega)))) | ((first | apply yJ | apply yK | apply yL | apply yM | apply yN | apply yO); (· exact hgA); (· exact hsA)) | (apply yNP; (· exact hgA); (· exact hsA)) | ((first | apply zA | apply zC | apply zE | apply zG); (· omega)) | ((first | apply zB | apply zD | apply zF | apply zH); (· omega)) | ((first | apply zI | apply zK); (· with_reducible assumption)) | ((first | apply zJ | apply zL); (· with_reducible assumption)) | fail)
    conv => whnf
    exact h _ hI1
def pushE (m : List (List Int)) (cs : List Chan) : Int := if blockB m = true then if m.length = cs.length then 0 else 11 else 1
def pushF (m : List (List Int)) (cs : List Chan) (k j : Nat) : Int := applyF (at2 m k j) (nowC (advC j (cs.getD k cP0)))
def pushM (m : List (List Int)) (cs : List Chan) : List (List Int) := if pushE m cs = 0 then matF (pushF m cs) m.length (framesB m) else []
def advF (L : Nat) (_ : Nat) (c : Chan) : Chan := advC L c
def pushL (m : List (List Int)) (cs : List Chan) : List Chan := if pushE m cs = 0 then cs.mapIdx (advF (framesB m)) else cs
theorem pushL_len (m : List (List Int)) (cs : List Chan) : (pushL m cs).length = cs.length := by unfold pushL; split <;> simp
theorem pushL_ok {m : List (List Int)} {cs : List Chan} (h : okL cs) : okL (pushL m cs) := by
  unfold pushL
  split
  · exact ok_map h (fun j c hc => adv_ok (by omega) hc)
  · exact h
theorem getD_chan {cs : List Chan} {k : Nat} (h : k < cs.length) : cs.getD k cP0 = cs[k] := by simp [List.getD, h]
theorem push_eq {m : List (List Int)} {cs ds : List Chan} (h : eqL cs ds) : pushE m cs = pushE m ds ∧ eqL (pushL m cs) (pushL m ds) ∧ pushM m cs = pushM m ds := by
  have e : pushE m cs = pushE m ds := by unfold pushE; rw [h.1]
  refine ⟨e, ?_, ?_⟩
  · unfold pushL
    rw [e]
    split
    · exact eq_map h (fun j a b hab => eq_adv (by omega) hab)
    · exact h
  · unfold pushM
    rw [e]
    split
    · rename_i h0
      refine matF_congr fun i hi c _ => ?_
      have hl : m.length = ds.length := by
        unfold pushE at h0
        split at h0
        · split at h0
          · assumption
          · omega
        · omega
      unfold pushF
      rw [getD_chan (show i < cs.length by have := h.1; omega), getD_chan (show i < ds.length by omega), eq_now (eq_adv (by omega) (h.2 i _ _))]
    · rfl
theorem pushF_bd (m : List (List Int)) (cs : List Chan) (k j : Nat) : -8388607 ≤ pushF m cs k j ∧ pushF m cs k j ≤ 8388607 := applyF_bd _ _
theorem push_c {vb ob c : Nat} {p : Option Addr} {m : List (List Int)} {cs : List Chan} {H : AHeap} {K : CK} (hV : VolP H vb ob cs) (hok : okL cs) (hn : cs.length ≤ 8) (hm : Mat H p m)
    (h : ∀ H' p' c', VolK H H' ob → H'.get ob = some (.cells (flatB chC (pushL m cs)) true 6) → Mat H' p' (pushM m cs) → K (.returned (.tuple #[.slice p' (pushM m cs).length c', iv (pushE m cs)])) H') :
    callS P (fnV 33) [.pointer (some ⟨vb, 0, none⟩), .slice p m.length c] H K := by
  obtain ⟨hvl, hol, hne, hv, ho⟩ := hV
  have bad_ : ∀ e, pushE m cs = e → e ≠ 0 → ∀ H', H.le H' → K (.returned (.tuple #[.slice none 0 0, iv e])) H' := fun e he hne2 H' hle => by
    have hL : pushL m cs = cs := by unfold pushL; rw [he, if_neg hne2]
    have hM : pushM m cs = [] := by unfold pushM; rw [he, if_neg hne2]
    have := h H' none 0 (VolK.of hle) (by rw [hL]; exact (hle.get _ hol).trans ho) (by rw [hM]; exact .nil)
    rw [hM, he] at this; exact this
  cases hvb : blockB m with
  | false =>
    have hE : pushE m cs = 1 := by unfold pushE; rw [hvb]; rfl
    refine callS_walk tt_ok Try.func33 rfl (by kernel_rfl) ?_
    conv => whnf
    repeat' ((conv => whnf); first | refine layValid_v (hm.kp kpA) hvb ?_ | (apply must_no; (· (first | rfl | assumption | exact decide_eq_false (by omega)))) | (apply caught_panic; (· exact hoA); (· exact hgA); intro H2 hle2 hg2) | ((first | (apply vB; (case h => with_reducible assumption)) | (apply vA; (case h => with_reducible assumption)) | (apply vC; (case h => with_reducible assumption))); (case hk => exact kpA); (case he => omega)) | ((first | (apply vI; (case h => with_reducible assumption)) | (apply vG; (case h => with_reducible assumption)) | (apply vK; (case h => with_reducible assumption))); (case hk => exact kpA); (case he => omega); (case hp => omega); (case' g => intro hr_ hc_)) | ((first | (apply vJ; (case h => with_reducible assumption)) | (apply vH; (case h => with_reducible assumption)) | (apply vL; (case h => with_reducible assumption))); (case hk => exact kpA); (case he => omega); (case' g => intro hr_ hc_)) | (apply drawS_auto mixed tt_ok; (· kernel_rfl)) | apply zZ | apply yA | apply yB | ((first | apply zA | apply zC | apply zE | apply zG); (· with_reducible assumption)) | ((first | apply zB | apply zD | apply zF | apply zH); (· with_reducible assumption)) | apply zM | apply zN | apply zO | apply zP | apply zQ | apply zR | apply zS | apply zT | apply zU | (apply zV; (· omega)) | (apply zW; (· omega)) | (apply zX; (· (first | omega | (dsimp only; omega)))) | (apply zY; (try (apply zY; apply zX; (· omega))); apply zX; (· omega); apply zX; (· (first | omega | (dsimp only; omega)))) | ((first | apply yJ | apply yK | apply yL | apply yM | apply yN | apply yO); (· exact hgA); (· exact hsA)) | (apply yNP; (· exact hgA); (· exact hsA)) | ((first | apply zA | apply zC | apply zE | apply zG); (· omega)) | ((first | apply zB | apply zD | apply zF | apply zH); (· omega)) | ((first | apply zI | apply zK); (· with_reducible assumption)) | ((first | apply zJ | apply zL); (· with_reducible assumption)) | ((first | apply xA | apply xC | apply xE | apply xG); (· first | assumption | rfl)) | ((first | apply xB | apply xD | apply xF | apply xH); (· first | assumption | kernel_rfl)) | fail)
    conv => whnf
    exact bad_ 1 hE (by omega) _ (AHeap.le.trans leA hle2)
  | true =>
    by_cases hd : m.length = cs.length
    · obtain ⟨⟨hm1, hm8⟩, hrows⟩ := blockB_rows hvb
      have hm0 : 0 < m.length := hm1
      have hL : ∀ r ∈ m, r.length = m[0].length := fun r hr => by rw [← headD_eq hm0]; exact (hrows r hr).1
      have hfr : framesB m = m[0].length := by rw [framesB, headD_eq hm0]
      have hL4 := (hrows m[0] (List.getElem_mem _)).2.1
      have hE : pushE m cs = 0 := by unfold pushE; rw [if_pos hvb, if_pos hd]
      have hMm : pushM m cs = matF (pushF m cs) m.length m[0].length := by unfold pushM; rw [if_pos hE, hfr]
      have hLl : pushL m cs = cs.mapIdx (advF m[0].length) := by unfold pushL; rw [if_pos hE, hfr]
      rw [hE, hMm, hLl, matF_len] at h
      refine callS_post ?_
      refine callS_walk tt_ok Try.func33 rfl (by kernel_rfl) ?_
      conv => whnf
      repeat' ((conv => whnf); first | refine layValid_v (hm.kp kpA) hvb ?_ | (apply must_ok; (· (first | rfl | assumption | exact decide_eq_true (by omega)))) | ((first | (apply vB; (case h => with_reducible assumption)) | (apply vA; (case h => with_reducible assumption)) | (apply vC; (case h => with_reducible assumption))); (case hk => exact kpA); (case he => omega)) | ((first | (apply vI; (case h => with_reducible assumption)) | (apply vG; (case h => with_reducible assumption)) | (apply vK; (case h => with_reducible assumption))); (case hk => exact kpA); (case he => omega); (case hp => omega); (case' g => intro hr_ hc_)) | ((first | (apply vJ; (case h => with_reducible assumption)) | (apply vH; (case h => with_reducible assumption)) | (apply vL; (case h => with_reducible assumption))); (case hk => exact kpA); (case he => omega); (case' g => intro hr_ hc_)) | (apply drawS_auto mixed tt_ok; (· kernel_rfl)) | apply zZ | apply yA | apply yB | ((first | apply zA | apply zC | apply zE | apply zG); (· with_reducible assumption)) | ((first | apply zB | apply zD | apply zF | apply zH); (· with_reducible assumption)) | apply zM | apply zN | apply zO | apply zP | apply zQ | apply zR | apply zS | apply zT | apply zU | (apply zV; (· omega)) | (apply zW; (· omega)) | (apply zX; (· (first | omega | (dsimp only; omega)))) | (apply zY; (try (apply zY; apply zX; (· omega))); apply zX; (· omega); apply zX; (· (first | omega | (dsimp only; omega)))) | ((first | apply yJ | apply yK | apply yL | apply yM | apply yN | apply yO); (· exact hgA); (· exact hsA)) | (apply yNP; (· exact hgA); (· exact hsA)) | ((first | apply zA | apply zC | apply zE | apply zG); (· omega)) | ((first | apply zB | apply zD | apply zF | apply zH); (· omega)) | ((first | apply zI | apply zK); (· with_reducible assumption)) | ((first | apply zJ | apply zL); (· with_reducible assumption)) | ((first | apply xA | apply xC | apply xE | apply xG); (· first | assumption | rfl)) | ((first | apply xB | apply xD | apply xF | apply xH); (· first | assumption | kernel_rfl)) | fail)
      conv => whnf
      apply loopS_maskD tt_ok (fun (k : Nat × AHeap × List Nat × List Nat) => [.k, .w, .w, .k, .k, .k, .w, .w, .w, .w, .w, .w, .w, .w, .w, .w, .w, .w, .w, .w, .w, .w, .w, .w, .w, .w, .w, .w, .w, .k, .p (iv k.1), .w, .w, .w, .w, .w, .w, .w, .w, .w, .w, .w, .w, .w, .w, .w, .w, .w, .w, .w, .w, .w, .w, .w, .w, .w, .w, .w, .w, .w, .w, .w, .w, .w, .w, .w, .w, .w, .w, .w, .w, .w, .w, .w]) (fun (k : Nat × AHeap × List Nat × List Nat) => k.2.1) (fun (k : Nat × AHeap × List Nat × List Nat) => k.2.2.2) (fun (k : Nat × AHeap × List Nat × List Nat) => k.1 ≤ m.length ∧ H.size + 4 ≤ k.2.1.size ∧ (∀ j, j < H.size → j ≠ ob → k.2.1.get j = H.get j) ∧ k.2.1.get H.size = some (.cells [.slice p m.length c] true 0) ∧ k.2.1.get (H.size + 1) = some (.cells [.slice (some ⟨H.size + 3, 0, none⟩) m.length m.length] true 0) ∧ k.2.1.get (H.size + 2) = some (.cells [iv 0] true 0) ∧ k.2.1.get ob = some (.cells (flatB chC (updN (advF m[0].length) k.1 cs)) true 6) ∧ (k.2.2.2.Nodup ∧ ∀ r ∈ k.2.2.2, H.size + 4 ≤ r ∧ r < k.2.1.size ∧ k.2.1.get r = some (.deferred [])) ∧ OMat k.2.1 (H.size + 3) (H.size + 3) k.2.2.1 (matF (pushF m cs) k.1 m[0].length) (List.replicate (m.length - k.1) (.slice none 0 0))) (fun (k : Nat × AHeap × List Nat × List Nat) => m.length - k.1) (⟨0, _, [], []⟩)
      case hst =>
        conv => whnf
        refine weakH_of (HW.refl _) ?_
        repeat' (first | exact WT.nil | refine WT.same ?_ | refine WT.drop ?_ | refine WT.int (by omega) ?_ | refine WT.eq (by assumption) ?_ | refine WT.bl (by first | assumption | (symm; assumption)) ?_ | refine WT.vv (by assumption) ?_)
      case h0 => exact ⟨by omega, hoA, fun j h1 _ => hgA, hgA, hgA, hgA, by rw [updN_zero]; (repeat (first | with_reducible assumption | ((first | apply yP | apply yQ); (first | omega | (simp; done) | (simp; omega))) | ((first | refine (yR _ _ ?_).trans ?_ | refine (yS _ _ ?_).trans ?_ | refine (yT _ ?_).trans ?_ | refine (yU (by with_reducible assumption) _ ?_).trans ?_); (· (first | omega | (simp; done) | (simp; omega)))) | exact rfl | assumption)), ⟨by simp, by simp⟩, ⟨rfl, hgA, fun k h1 => absurd h1 (by simp), by simp, by simp, ⟨by omega, by simp⟩, ⟨hoA, by simp⟩⟩⟩
      intro k hk
      obtain ⟨k, H1, rs, ds⟩ := k
      obtain ⟨hk, hs, hsame, g0, g1, ge, go, ⟨hdn, hds⟩, hom⟩ := hk
      dsimp only at hk hs hsame g0 g1 ge go hdn hds hom ⊢
      have gv := (hsame vb hvl hne).trans hv
      have hkp : Kp H H1 := ⟨by omega, fun i c sz hi g => by
        by_cases e : i = ob
        · subst e
          rw [ho] at g
          cases g
        · exact (hsame i hi e).trans g⟩
      by_cases hlt : k < m.length
      · have hlc : k < cs.length := by omega
        obtain ⟨i0, off, rfl⟩ := hm.at hlt
        obtain ⟨hr1, hr2, hr3⟩ := hrows m[k] (List.getElem_mem _)
        have hrl := hL m[k] (List.getElem_mem _)
        have hlu : k < (updN (advF m[0].length) k cs).length := by rw [updN_len]; exact hlc
        have hcu := updN_get (F := advF m[0].length) hlc hlu
        obtain ⟨a1, a2, a3, a4, a5⟩ := hok cs[k] (List.getElem_mem _)
        have hout := hom.outer
        have hz : (zipS rs (matF (pushF m cs) k m[0].length)).length = k := by rw [zipS_len hom.len, matF_len]
        have hlo := hom.lo.2
        have hlt1 := hom.lt.2
        have hoff : 0 + (k : Int).toNat * 6 + 0 = k * 6 := by simp
        repeat' ((conv => whnf); first | (refine callS_walk tt_ok Try.func54 rfl (by kernel_rfl) ?_) | ((first | (apply vB; (case h => with_reducible assumption)) | (apply vA; (case h => with_reducible assumption)) | (apply vC; (case h => with_reducible assumption))); (case hk => exact kpA); (case he => omega)) | ((first | (apply vI; (case h => with_reducible assumption)) | (apply vG; (case h => with_reducible assumption)) | (apply vK; (case h => with_reducible assumption))); (case hk => exact kpA); (case he => omega); (case hp => omega); (case' g => intro hr_ hc_)) | ((first | (apply vJ; (case h => with_reducible assumption)) | (apply vH; (case h => with_reducible assumption)) | (apply vL; (case h => with_reducible assumption))); (case hk => exact kpA); (case he => omega); (case' g => intro hr_ hc_)) | (apply drawS_auto mixed tt_ok; (· kernel_rfl)) | apply zZ | apply yA | apply yB | ((first | apply zA | apply zC | apply zE | apply zG); (· with_reducible assumption)) | ((first | apply zB | apply zD | apply zF | apply zH); (· with_reducible assumption)) | apply zM | apply zN | apply zO | apply zP | apply zQ | apply zR | apply zS | apply zT | apply zU | (apply zV; (· omega)) | (apply zW; (· omega)) | (apply zX; (· (first | omega | (dsimp only; omega)))) | (apply zY; (try (apply zY; apply zX; (· omega))); apply zX; (· omega); apply zX; (· (first | omega | (dsimp only; omega)))) | ((first | apply yJ | apply yK | apply yL | apply yM | apply yN | apply yO); (· exact hgA); (· exact hsA)) | (apply yNP; (· exact hgA); (· exact hsA)) | ((first | apply zA | apply zC | apply zE | apply zG); (· omega)) | ((first | apply zB | apply zD | apply zF | apply zH); (· omega)) | ((first | apply zI | apply zK); (· with_reducible assumption)) | ((first | apply zJ | apply zL); (· with_reducible assumption)) | ((first | apply xA | apply xC | apply xE | apply xG); (· first | assumption | rfl)) | ((first | apply xB | apply xD | apply xF | apply xH); (· first | assumption | kernel_rfl)) | fail)
        conv => whnf
        refine gains2_c (n := m[k].length) (ob := ob) (off := 0 + (k : Int).toNat * 6 + 0) (a := cs[k].fr) (b := cs[k].to) (fr := cs[k].n) (i0 := cs[k].i) (CC := fun j => flatB chC ((updN (advF m[0].length) k cs).set k (advC j cs[k]))) (I := fun Hb j H2 => Hb.size ≤ H2.size ∧ (∀ i, i < Hb.size → i ≠ ob → i ≠ H1.size + 1 → H2.get i = Hb.get i) ∧ H2.get ob = some (.cells (flatB chC ((updN (advF m[0].length) k cs).set k (advC j cs[k]))) true 6) ∧
            H2.get (H1.size + 1) = some (.cells ((fillN (pushF m cs k) m[k].length j).map (Value.int .i64)) true 1)) (by omega) a1 a2 a4 a5 ?_ ?_ ?_ ?_ ?_ ?_
        · intro j hj
          have hl2 : k < ((updN (advF m[0].length) k cs).set k (advC j cs[k])).length := by rw [List.length_set]; exact hlu
          rw [hoff]
          refine ⟨⟨?_, ?_⟩, ?_⟩
          · rw [flat_len six_C]; omega
          · have := flat_part six_C (a := 0) (n := 4) hl2 (by omega)
            rw [Nat.add_zero] at this
            rw [this, List.getElem_set_self]
            rfl
          · rw [flat_set six_C (c' := advC ((j + 1 : Nat) : Int) cs[k]) hl2 (by omega) (by
              rw [List.getElem_set_self]
              have e : min (cs[k].i + j + 1) cs[k].n = min (cs[k].i + ((j + 1 : Nat) : Int)) cs[k].n := by omega
              rw [e]
              rfl), List.set_set]
        · rintro j H2 ⟨(hs2 : H1.size + 6 ≤ H2.size), hsame2, q1, q2⟩
          exact ⟨(hsame2 (H1.size + 2) hoA hoA hoA).trans hgA, q1⟩
        · (repeat (first | with_reducible assumption | ((first | apply yP | apply yQ); (first | omega | (simp; done) | (simp; omega))) | ((first | refine (yR _ _ ?_).trans ?_ | refine (yS _ _ ?_).trans ?_ | refine (yT _ ?_).trans ?_ | refine (yU (by with_reducible assumption) _ ?_).trans ?_); (· (first | omega | (simp; done) | (simp; omega)))) | exact rfl | assumption))
        · refine ⟨Nat.le_refl _, fun _ _ _ _ => rfl, ?_, ?_⟩
          · have e : (updN (advF m[0].length) k cs).set k (advC ((0 : Nat) : Int) cs[k]) = updN (advF m[0].length) k cs := by
              rw [show ((0 : Nat) : Int) = 0 from rfl, adv_zero a5.2]
              exact (congrArg (fun x => (updN (advF m[0].length) k cs).set k x) hcu.symm).trans (List.set_getElem_self _)
            rw [e]
            (repeat (first | with_reducible assumption | ((first | apply yP | apply yQ); (first | omega | (simp; done) | (simp; omega))) | ((first | refine (yR _ _ ?_).trans ?_ | refine (yS _ _ ?_).trans ?_ | refine (yT _ ?_).trans ?_ | refine (yU (by with_reducible assumption) _ ?_).trans ?_); (· (first | omega | (simp; done) | (simp; omega)))) | exact rfl | assumption))
          · rw [fillN_zero, List.map_replicate]
            (repeat (first | with_reducible assumption | ((first | apply yP | apply yQ); (first | omega | (simp; done) | (simp; omega))) | ((first | refine (yR _ _ ?_).trans ?_ | refine (yS _ _ ?_).trans ?_ | refine (yT _ ?_).trans ?_ | refine (yU (by with_reducible assumption) _ ?_).trans ?_); (· (first | omega | (simp; done) | (simp; omega)))) | exact rfl | assumption))
        · rintro j H2 K1 hj ⟨(hs2 : H1.size + 6 ≤ H2.size), hsame2, q1, q2⟩ hK
          have gl := (hsame2 (H1.size + 5) hoA hoA hoA).trans hgA
          have e0 : H2.get (H1.size) = some (.cells [iv k] true 0) := (hsame2 _ hoA hoA hoA).trans hgA
          have e1 : H2.get H.size = some (.cells [.slice (some ⟨i0, off, none⟩) m.length c] true 0) := (hsame2 _ hoA hoA hoA).trans hgA
          have e3 : H2.get (H.size + 1) = some (.cells [.slice (some ⟨H.size + 3, 0, none⟩) m.length m.length] true 0) := (hsame2 _ hoA hoA hoA).trans hgA
          have e2 : H2.get (H.size + 3) = some (.cells ((zipS rs (matF (pushF m cs) k m[0].length) ++ List.replicate (m.length - k) (Value.slice none 0 0)).set (0 + (k : Int).toNat * 1) (Value.slice (some ⟨H1.size + 1, 0, none⟩) m[k].length m[k].length)) true 1) := (hsame2 _ hoA hoA hoA).trans hgA
          have hck : ((zipS rs (matF (pushF m cs) k m[0].length) ++ List.replicate (m.length - k) (Value.slice none 0 0)).set (0 + (k : Int).toNat * 1) (Value.slice (some ⟨H1.size + 1, 0, none⟩) m[k].length m[k].length))[0 + (k : Int).toNat * 1]? = some (.slice (some ⟨H1.size + 1, 0, none⟩) m[k].length m[k].length) := by
            rw [List.getElem?_set_self]
            simp only [List.length_append, hz, List.length_replicate]
            omega
          have hkp2 : Kp H H2 := ⟨by omega, fun i c sz hi g => by
            by_cases e : i = ob
            · subst e
              rw [ho] at g
              cases g
            · exact (hsame2 i hoA e hoA).trans ((by (repeat (first | with_reducible assumption | ((first | apply yP | apply yQ); (first | omega | (simp; done) | (simp; omega))) | ((first | refine (yR _ _ ?_).trans ?_ | refine (yS _ _ ?_).trans ?_ | refine (yT _ ?_).trans ?_ | refine (yU (by with_reducible assumption) _ ?_).trans ?_); (· (first | omega | (simp; done) | (simp; omega)))) | exact rfl | assumption)) : _ = H1.get i).trans ((hsame i hi e).trans g))⟩
          have hmj := hr3 m[k][j] (List.getElem_mem _)
          have hnow : nowF cs[k].fr cs[k].to cs[k].n (min (cs[k].i + j) cs[k].n) = nowC (advC j cs[k]) := rfl
          have hng : isGain (nowC (advC j cs[k])) := now_gain (adv_ok (by omega) ⟨a1, a2, a3, a4, a5⟩)
          have hpf : applyF m[k][j] (nowC (advC j cs[k])) = pushF m cs k j := by unfold pushF; rw [getD_chan hlc, at2_eq hlt hj]
          have hn0 : fillN (pushF m cs k) m[k].length (j + 1) = (fillN (pushF m cs k) m[k].length j).set j (applyF m[k][j] (nowC (advC j cs[k]))) := (fillN_set _ hpf).symm
          have hfl := fillN_len (pushF m cs k) m[k].length j
          rw [hnow]
          refine callS_round tt_ok ?_
          repeat' ((conv => whnf); first | (refine loadK_get ?_ hck ?_; (· exact hgA)) | refine apply_c hmj hng ?_ | ((first | (apply vB; (case h => with_reducible assumption)) | (apply vA; (case h => with_reducible assumption)) | (apply vC; (case h => with_reducible assumption))); (case hk => exact kpA); (case he => omega)) | ((first | (apply vI; (case h => with_reducible assumption)) | (apply vG; (case h => with_reducible assumption)) | (apply vK; (case h => with_reducible assumption))); (case hk => exact kpA); (case he => omega); (case hp => omega); (case' g => intro hr_ hc_)) | ((first | (apply vJ; (case h => with_reducible assumption)) | (apply vH; (case h => with_reducible assumption)) | (apply vL; (case h => with_reducible assumption))); (case hk => exact kpA); (case he => omega); (case' g => intro hr_ hc_)) | (apply drawS_auto mixed tt_ok; (· kernel_rfl)) | apply zZ | apply yA | apply yB | ((first | apply zA | apply zC | apply zE | apply zG); (· with_reducible assumption)) | ((first | apply zB | apply zD | apply zF | apply zH); (· with_reducible assumption)) | apply zM | apply zN | apply zO | apply zP | apply zQ | apply zR | apply zS | apply zT | apply zU | (apply zV; (· omega)) | (apply zW; (· omega)) | (apply zX; (· (first | omega | (dsimp only; omega)))) | (apply zY; (try (apply zY; apply zX; (· omega))); apply zX; (· omega); apply zX; (· (first | omega | (dsimp only; omega)))) | ((first | apply yJ | apply yK | apply yL | apply yM | apply yN | apply yO); (· exact hgA); (· exact hsA)) | (apply yNP; (· exact hgA); (· exact hsA)) | ((first | apply zA | apply zC | apply zE | apply zG); (· omega)) | ((first | apply zB | apply zD | apply zF | apply zH); (· omega)) | ((first | apply zI | apply zK); (· with_reducible assumption)) | ((first | apply zJ | apply zL); (· with_reducible assumption)) | ((first | apply xA | apply xC | apply xE | apply xG); (· first | assumption | rfl)) | ((first | apply xB | apply xD | apply xF | apply xH); (· first | assumption | kernel_rfl)) | fail)
          conv => whnf
          refine hK _ ⟨(show H1.size + 6 ≤ _ from hoA), fun i hi h1 h2 => ?_, hgA, Eq.trans (b := some (.cells (((fillN (pushF m cs k) m[k].length j).map (Value.int .i64)).set (0 + (j : Int).toNat * 1) (.int .i64 (applyF m[k][j] (nowC (advC j cs[k]))))) true 1)) hgA (by rw [hn0, List.map_set]; simp)⟩
          by_cases hl : i = H1.size + 5
          · subst hl
            exact Eq.trans hgA (Eq.symm hgA)
          · have hi' : i < H1.size + 6 := hi
            (repeat (first | with_reducible assumption | ((first | apply yP | apply yQ); (first | omega | (simp; done) | (simp; omega))) | ((first | refine (yR _ _ ?_).trans ?_ | refine (yS _ _ ?_).trans ?_ | refine (yT _ ?_).trans ?_ | refine (yU (by with_reducible assumption) _ ?_).trans ?_); (· (first | omega | (simp; done) | (simp; omega)))) | exact rfl | assumption))
            exact hsame2 i hi h1 h2
        · rintro H2 ⟨(hs2 : H1.size + 6 ≤ H2.size), hsame2, q1, q2⟩
          have gl := (hsame2 (H1.size + 5) hoA hoA hoA).trans hgA
          have gd : H2.get (H1.size + 4) = some (.deferred []) := (hsame2 _ hoA hoA hoA).trans hgA
          have f1 : H2.get H.size = some (.cells [.slice (some ⟨i0, off, none⟩) m.length c] true 0) := (hsame2 _ hoA hoA hoA).trans hgA
          have f3 : H2.get (H.size + 1) = some (.cells [.slice (some ⟨H.size + 3, 0, none⟩) m.length m.length] true 0) := (hsame2 _ hoA hoA hoA).trans hgA
          have fe : H2.get (H.size + 2) = some (.cells [iv 0] true 0) := (hsame2 _ hoA hoA hoA).trans hgA
          have f2 : H2.get (H.size + 3) = some (.cells ((zipS rs (matF (pushF m cs) k m[0].length) ++ List.replicate (m.length - k) (Value.slice none 0 0)).set (0 + (k : Int).toNat * 1) (Value.slice (some ⟨H1.size + 1, 0, none⟩) m[k].length m[k].length)) true 1) := (hsame2 _ hoA hoA hoA).trans hgA
          have fo : ∀ i, i < H1.size → i ≠ ob → i ≠ H.size + 3 → H2.get i = H1.get i := fun i hi hne1 hne2 => (hsame2 i hoA hne1 hoA).trans hgA
          have hrep : List.replicate (m.length - k) (Value.slice none 0 0) = Value.slice none 0 0 :: List.replicate (m.length - (k + 1)) (Value.slice none 0 0) := by
            rw [show m.length - k = (m.length - (k + 1)) + 1 by omega, List.replicate_succ]
          have hom3 : OMat (H2.kill (H1.size + 5)) (H.size + 3) (H.size + 3) (rs ++ [H1.size + 1]) (matF (pushF m cs) (k + 1) m[0].length) (List.replicate (m.length - (k + 1)) (.slice none 0 0)) := by
            rw [matF_snoc]
            rw [hrep] at hom f2
            refine (hom.set_lo (i := ob) (by omega) (.cells (flatB chC ((updN (advF m[0].length) k cs).set k (advC (m[k].length : Nat) cs[k]))) true 6)).put (r := H1.size + 1) (x := rowF (pushF m cs k) m[0].length) (by simp; omega) (by simp; omega) (by simp; omega) ?_ ((AHeap.kill_ne _ (by omega)).trans f2) ?_ (fun i hi hne2 => ?_)
            · rw [matF_len, rowF_len, hrl]
              congr 1
              simp
            · refine (AHeap.kill_ne _ (by omega)).trans (q2.trans ?_)
              rw [fillN_full, hrl]
              rfl
            · have hi' : i < H1.size := hi
              refine (AHeap.kill_ne _ (by omega)).trans ?_
              by_cases e : i = ob
              · subst e
                rw [AHeap.set_same]
                exact q1
              · rw [AHeap.set_ne _ _ e]
                exact fo i hi' e hne2
          have hds2 : ∀ r ∈ (H1.size + 4) :: ds, H.size + 4 ≤ r ∧ r < (H2.kill (H1.size + 5)).size ∧ (H2.kill (H1.size + 5)).get r = some (.deferred []) := by
            intro r hr
            rcases List.mem_cons.1 hr with rfl | hr
            · exact ⟨by omega, by simp; omega, hgA⟩
            · obtain ⟨w1, w2, w3⟩ := hds r hr
              exact ⟨w1, by simp; omega, (AHeap.kill_ne _ (by omega)).trans ((fo r w2 (by omega) (by omega)).trans w3)⟩
          have hlo5 : ∀ r ∈ ds, r < H1.size := fun r hr => (hds r hr).2.1
          have hup : (updN (advF m[0].length) k cs).set k (advC (m[k].length : Nat) cs[k]) = updN (advF m[0].length) (k + 1) cs := updN_set hlc (by unfold advF; rw [hrl])
          rw [hup] at q1
          repeat' ((conv => whnf); first | ((first | (apply vB; (case h => with_reducible assumption)) | (apply vA; (case h => with_reducible assumption)) | (apply vC; (case h => with_reducible assumption))); (case hk => exact kpA); (case he => omega)) | ((first | (apply vI; (case h => with_reducible assumption)) | (apply vG; (case h => with_reducible assumption)) | (apply vK; (case h => with_reducible assumption))); (case hk => exact kpA); (case he => omega); (case hp => omega); (case' g => intro hr_ hc_)) | ((first | (apply vJ; (case h => with_reducible assumption)) | (apply vH; (case h => with_reducible assumption)) | (apply vL; (case h => with_reducible assumption))); (case hk => exact kpA); (case he => omega); (case' g => intro hr_ hc_)) | (apply drawS_auto mixed tt_ok; (· kernel_rfl)) | apply zZ | apply yA | apply yB | ((first | apply zA | apply zC | apply zE | apply zG); (· with_reducible assumption)) | ((first | apply zB | apply zD | apply zF | apply zH); (· with_reducible assumption)) | apply zM | apply zN | apply zO | apply zP | apply zQ | apply zR | apply zS | apply zT | apply zU | (apply zV; (· omega)) | (apply zW; (· omega)) | (apply zX; (· (first | omega | (dsimp only; omega)))) | (apply zY; (try (apply zY; apply zX; (· omega))); apply zX; (· omega); apply zX; (· (first | omega | (dsimp only; omega)))) | ((first | apply yJ | apply yK | apply yL | apply yM | apply yN | apply yO); (· exact hgA); (· exact hsA)) | (apply yNP; (· exact hgA); (· exact hsA)) | ((first | apply zA | apply zC | apply zE | apply zG); (· omega)) | ((first | apply zB | apply zD | apply zF | apply zH); (· omega)) | ((first | apply zI | apply zK); (· with_reducible assumption)) | ((first | apply zJ | apply zL); (· with_reducible assumption)) | ((first | apply xA | apply xC | apply xE | apply xG); (· first | assumption | rfl)) | ((first | apply xB | apply xD | apply xF | apply xH); (· first | assumption | kernel_rfl)) | fail)
          conv => whnf
          apply Exists.intro (k + 1, _, rs ++ [H1.size + 1], (H1.size + 4) :: ds)
          refine ⟨?inv, ?mu, ?wk⟩
          case wk =>
            conv => whnf
            refine weakH_of (HW.refl _) ?_
            repeat' (first | exact WT.nil | refine WT.same ?_ | refine WT.drop ?_ | refine WT.int (by omega) ?_ | refine WT.eq (by assumption) ?_ | refine WT.bl (by first | assumption | (symm; assumption)) ?_ | refine WT.vv (by assumption) ?_)
          case mu => first | omega | (dsimp only; omega)
          case inv => exact ⟨by omega, (show H.size + 4 ≤ H2.size by omega), fun j h1 h2 => (AHeap.kill_ne H2 (i := H1.size + 5) (j := j) (by omega)).trans ((fo j (by omega) h2 (by omega)).trans (hsame j h1 h2)), hgA, hgA, hgA, hgA, ⟨List.nodup_cons.2 ⟨fun hm => by have := hlo5 _ hm; omega, hdn⟩, hds2⟩, hom3⟩
      · have hkn : k = m.length := by omega
        subst hkn
        have hup : updN (advF m[0].length) m.length cs = cs.mapIdx (advF m[0].length) := by rw [hd, updN_all]
        rw [hup] at go
        rw [Nat.sub_self] at hom
        repeat' ((conv => whnf); first | ((first | (apply vB; (case h => with_reducible assumption)) | (apply vA; (case h => with_reducible assumption)) | (apply vC; (case h => with_reducible assumption))); (case hk => exact kpA); (case he => omega)) | ((first | (apply vI; (case h => with_reducible assumption)) | (apply vG; (case h => with_reducible assumption)) | (apply vK; (case h => with_reducible assumption))); (case hk => exact kpA); (case he => omega); (case hp => omega); (case' g => intro hr_ hc_)) | ((first | (apply vJ; (case h => with_reducible assumption)) | (apply vH; (case h => with_reducible assumption)) | (apply vL; (case h => with_reducible assumption))); (case hk => exact kpA); (case he => omega); (case' g => intro hr_ hc_)) | (apply drawS_auto mixed tt_ok; (· kernel_rfl)) | apply zZ | apply yA | apply yB | ((first | apply zA | apply zC | apply zE | apply zG); (· with_reducible assumption)) | ((first | apply zB | apply zD | apply zF | apply zH); (· with_reducible assumption)) | apply zM | apply zN | apply zO | apply zP | apply zQ | apply zR | apply zS | apply zT | apply zU | (apply zV; (· omega)) | (apply zW; (· omega)) | (apply zX; (· (first | omega | (dsimp only; omega)))) | (apply zY; (try (apply zY; apply zX; (· omega))); apply zX; (· omega); apply zX; (· (first | omega | (dsimp only; omega)))) | ((first | apply yJ | apply yK | apply yL | apply yM | apply yN | apply yO); (· exact hgA); (· exact hsA)) | (apply yNP; (· exact hgA); (· exact hsA)) | ((first | apply zA | apply zC | apply zE | apply zG); (· omega)) | ((first | apply zB | apply zD | apply zF | apply zH); (· omega)) | ((first | apply zI | apply zK); (· with_reducible assumption)) | ((first | apply zJ | apply zL); (· with_reducible assumption)) | ((first | apply xA | apply xC | apply xE | apply xG); (· first | assumption | rfl)) | ((first | apply xB | apply xD | apply xF | apply xH); (· first | assumption | kernel_rfl)) | fail)
        conv => whnf
        refine leaveK_cols (.inl rfl) ds _ hdn (fun r hr => ?_) ?_
        · obtain ⟨w1, w2, w3⟩ := hds r hr
          exact (AHeap.set_ne _ _ (by simp; omega)).trans ((AHeap.set_ne _ _ (by simp; omega)).trans w3)
        have hnd : ∀ j, j < H.size + 4 → j ∉ ds := fun j hj hm => by have := (hds j hm).1; omega
        generalize hHk : killAll _ ds = Hk
        have hkz : Hk.size = H1.size := by rw [← hHk, killAll_size]; simp
        have hkg : ∀ j, j ∉ ds → j ≠ H.size + 1 → j ≠ H.size + 2 → Hk.get j = H1.get j := fun j h1 h2 h3 => by
          rw [← hHk, killAll_get _ _ _ h1]
          exact (AHeap.set_ne _ _ h3).trans (AHeap.set_ne _ _ h2)
        have hke : Hk.get (H.size + 2) = some (.cells [iv 0] true 0) := by
          rw [← hHk, killAll_get _ _ _ (hnd _ (by omega))]
          exact AHeap.set_same _ _ _
        have hk1 : Hk.get (H.size + 1) = some (.cells [.slice (some ⟨H.size + 3, 0, none⟩) m.length m.length] true 0) := by
          rw [← hHk, killAll_get _ _ _ (hnd _ (by omega))]
          exact (AHeap.set_ne _ _ (by simp)).trans (AHeap.set_same _ _ _)
        clear hHk
        repeat' ((conv => whnf); first | (apply caught_ret; (· exact hoA); (· exact hgA); intro H5 hle5 hg5) | ((first | (apply vB; (case h => with_reducible assumption)) | (apply vA; (case h => with_reducible assumption)) | (apply vC; (case h => with_reducible assumption))); (case hk => exact kpA); (case he => omega)) | ((first | (apply vI; (case h => with_reducible assumption)) | (apply vG; (case h => with_reducible assumption)) | (apply vK; (case h => with_reducible assumption))); (case hk => exact kpA); (case he => omega); (case hp => omega); (case' g => intro hr_ hc_)) | ((first | (apply vJ; (case h => with_reducible assumption)) | (apply vH; (case h => with_reducible assumption)) | (apply vL; (case h => with_reducible assumption))); (case hk => exact kpA); (case he => omega); (case' g => intro hr_ hc_)) | (apply drawS_auto mixed tt_ok; (· kernel_rfl)) | apply zZ | apply yA | apply yB | ((first | apply zA | apply zC | apply zE | apply zG); (· with_reducible assumption)) | ((first | apply zB | apply zD | apply zF | apply zH); (· with_reducible assumption)) | apply zM | apply zN | apply zO | apply zP | apply zQ | apply zR | apply zS | apply zT | apply zU | (apply zV; (· omega)) | (apply zW; (· omega)) | (apply zX; (· (first | omega | (dsimp only; omega)))) | (apply zY; (try (apply zY; apply zX; (· omega))); apply zX; (· omega); apply zX; (· (first | omega | (dsimp only; omega)))) | ((first | apply yJ | apply yK | apply yL | apply yM | apply yN | apply yO); (· exact hgA); (· exact hsA)) | (apply yNP; (· exact hgA); (· exact hsA)) | ((first | apply zA | apply zC | apply zE | apply zG); (· omega)) | ((first | apply zB | apply zD | apply zF | apply zH); (· omega)) | ((first | apply zI | apply zK); (· with_reducible assumption)) | ((first | apply zJ | apply zL); (· with_reducible assumption)) | ((first | apply xA | apply xC | apply xE | apply xG); (· first | assumption | rfl)) | ((first | apply xB | apply xD | apply xF | apply xH); (· first | assumption | kernel_rfl)) | fail)
        conv => whnf
        have hz5 := hle5.size
        have hg : ∀ j, j < H1.size → j ∉ ds → j ≠ H.size + 1 → j ≠ H.size + 2 → H5.get j = H1.get j := fun j h0 h1 h2 h3 => (hle5.get j (by omega)).trans (hkg j h1 h2 h3)
        have hom2 := hom.of_get (H' := H5) (by omega) (fun i hi hi2 => hg i hi (fun hm => by
          have h1 := (hds i hm).2.2
          rcases hi2 with rfl | hi2
          · rw [hom.outer] at h1; cases h1
          · obtain ⟨j, hj, rfl⟩ := List.getElem_of_mem hi2
            rw [hom.inner j hj (by rw [← hom.len]; exact hj)] at h1; cases h1) (by
          rcases hi2 with rfl | hi2
          · omega
          · have := hom.lo.2 i hi2; omega) (by
          rcases hi2 with rfl | hi2
          · omega
          · have := hom.lo.2 i hi2; omega))
        refine ⟨_, HW.fz _ H.size, h _ _ _ ⟨by simp; omega, fun j h1 h2 => (AHeap.fz_lt _ h1).trans ((hg j (by omega) (hnd j (by omega)) (by omega) (by omega)).trans (hsame j h1 h2))⟩ ((AHeap.fz_lt _ hol).trans ((hg ob (by omega) (hnd ob (by omega)) (by omega) (by omega)).trans go)) (hom2.fzF (by omega) (by unfold maxN; omega) (by unfold maxN; omega) (fun i _ c _ => by have := pushF_bd m cs i c; unfold inR; omega))⟩
    · have hE : pushE m cs = 11 := by unfold pushE; rw [if_pos hvb, if_neg hd]
      refine callS_walk tt_ok Try.func33 rfl (by kernel_rfl) ?_
      conv => whnf
      repeat' ((conv => whnf); first | refine layValid_v (hm.kp kpA) hvb ?_ | (apply must_ok; (· (first | rfl | assumption | exact decide_eq_true (by omega)))) | (apply must_no; (· (first | rfl | assumption | exact decide_eq_false (by omega)))) | (apply caught_panic; (· exact hoA); (· exact hgA); intro H2 hle2 hg2) | ((first | (apply vB; (case h => with_reducible assumption)) | (apply vA; (case h => with_reducible assumption)) | (apply vC; (case h => with_reducible assumption))); (case hk => exact kpA); (case he => omega)) | ((first | (apply vI; (case h => with_reducible assumption)) | (apply vG; (case h => with_reducible assumption)) | (apply vK; (case h => with_reducible assumption))); (case hk => exact kpA); (case he => omega); (case hp => omega); (case' g => intro hr_ hc_)) | ((first | (apply vJ; (case h => with_reducible assumption)) | (apply vH; (case h => with_reducible assumption)) | (apply vL; (case h => with_reducible assumption))); (case hk => exact kpA); (case he => omega); (case' g => intro hr_ hc_)) | (apply drawS_auto mixed tt_ok; (· kernel_rfl)) | apply zZ | apply yA | apply yB | ((first | apply zA | apply zC | apply zE | apply zG); (· with_reducible assumption)) | ((first | apply zB | apply zD | apply zF | apply zH); (· with_reducible assumption)) | apply zM | apply zN | apply zO | apply zP | apply zQ | apply zR | apply zS | apply zT | apply zU | (apply zV; (· omega)) | (apply zW; (· omega)) | (apply zX; (· (first | omega | (dsimp only; omega)))) | (apply zY; (try (apply zY; apply zX; (· omega))); apply zX; (· omega); apply zX; (· (first | omega | (dsimp only; omega)))) | ((first | apply yJ | apply yK | apply yL | apply yM | apply yN | apply yO); (· exact hgA); (· exact hsA)) | (apply yNP; (· exact hgA); (· exact hsA)) | ((first | apply zA | apply zC | apply zE | apply zG); (· omega)) | ((first | apply zB | apply zD | apply zF | apply zH); (· omega)) | ((first | apply zI | apply zK); (· with_reducible assumption)) | ((first | apply zJ | apply zL); (· with_reducible assumption)) | ((first | apply xA | apply xC | apply xE | apply xG); (· first | assumption | rfl)) | ((first | apply xB | apply xD | apply xF | apply xH); (· first | assumption | kernel_rfl)) | fail)
      conv => whnf
      exact bad_ 11 hE (by omega) _ (AHeap.le.trans leA hle2)
end Go.Abs
