/- Contract of Join, the program's. -/
import Derived.Test.YthjmijjppaebgaaFF04
set_option linter.all false
set_option maxHeartbeats 2000000
set_option maxRecDepth 20000
namespace Go.Abs
open Go Go.Proofs

def jP (l : List (List (List Int))) (i c : Nat) : List (List Int) := (List.range (l.headD []).length).map fun a => if a < c then jR l (i + 1) a else jR l i a
theorem jP_len (l : List (List (List Int))) (i c : Nat) : (jP l i c).length = (l.headD []).length := by simp [jP]
theorem jP_get {l : List (List (List Int))} {i c a : Nat} (h : a < (jP l i c).length) : (jP l i c)[a] = if a < c then jR l (i + 1) a else jR l i a := by simp [jP]
theorem jP_zero (l : List (List (List Int))) (i : Nat) : jP l i 0 = jM l i := by simp [jP, jM]
theorem jP_full (l : List (List (List Int))) (i : Nat) : jP l i (l.headD []).length = jM l (i + 1) := by
  unfold jP jM
  refine List.map_congr_left fun a ha => ?_
  rw [if_pos (List.mem_range.1 ha)]
theorem jP_set {l : List (List (List Int))} {i c : Nat} (hc : c < (l.headD []).length) : (jP l i c).set c (jR l (i + 1) c) = jP l i (c + 1) := by
  apply List.ext_getElem
  · simp [jP]
  · intro a h1 h2
    have ha : a < (jP l i c).length := by simpa using h1
    rw [List.getElem_set, jP_get h2]
    by_cases h : c = a
    · subst h; rw [if_pos rfl, if_pos (by omega)]
    · rw [if_neg h, jP_get ha]
      by_cases h3 : a < c
      · rw [if_pos h3, if_pos (by omega)]
      · rw [if_neg h3, if_neg (by omega)]
theorem zeroRow_one (v : Value) (n : Nat) : zeroRow n [v] = List.replicate n v := rfl
theorem ors_nil {H : AHeap} {base o n : Nat} {l : List (List (List Int))} (hn : n = (l.headD []).length) (hg : H.get o = some (.cells (List.replicate n (.slice none 0 0)) true 1)) (h1 : base ≤ o) (h2 : o < H.size) : ORs H base o (List.replicate n (.slice none 0 0)) (jM l 0) where
  out := hg
  lo := ⟨h1, h2⟩
  len := by rw [jM_len, List.length_replicate, hn]
  row k a b := .inl ⟨by simp, by rw [jM_get, jR_zero]⟩
  ne := by
    intro j k a b r n1 c n2 c2 _ he
    simp at he
theorem joined_c {a : Option Addr} {c : Nat} {l : List (List (List Int))} {H : AHeap} {K : CK} (hl30 : l.length ≤ 30) (hl : Bls H a l)
    (hbad : ∀ H' p n c', H.le H' → joinE l ≠ 0 → K (.returned (.tuple #[.slice p n c', iv (joinE l)])) H')
    (hok : ∀ H' o vs, H.le H' → joinE l = 0 → ORs H' H.size o vs (jM l l.length) → K (.returned (.tuple #[.slice (some ⟨o, 0, none⟩) (l.headD []).length (l.headD []).length, iv 0])) H') : callS P (fnV 73) [.slice a l.length c] H K := by
  refine callS_walk tt_ok Try.func73 rfl (by kernel_rfl) ?_
  conv => whnf
  repeat' ((conv => whnf); first | ((first | (apply vB; (case h => with_reducible assumption)) | (apply vA; (case h => with_reducible assumption)) | (apply vC; (case h => with_reducible assumption))); (case hk => exact kpA); (case he => omega)) | ((first | (apply vI; (case h => with_reducible assumption)) | (apply vG; (case h => with_reducible assumption)) | (apply vK; (case h => with_reducible assumption))); (case hk => exact kpA); (case he => omega); (case hp => omega); (case' g => intro hr_ hc_)) | ((first | (apply vJ; (case h => with_reducible assumption)) | (apply vH; (case h => with_reducible assumption)) | (apply vL; (case h => with_reducible assumption))); (case hk => exact kpA); (case he => omega); (case' g => intro hr_ hc_)) | (apply drawS_auto mixed tt_ok; (· kernel_rfl)) | apply zZ | apply yA | apply yB | ((first | apply zA | apply zC | apply zE | apply zG); (· with_reducible assumption)) | ((first | apply zB | apply zD | apply zF | apply zH); (· with_reducible assumption)) | apply zM | apply zN | apply zO | apply zP | apply zQ | apply zR | apply zS | apply zT | apply zU | (apply zV; (· omega)) | (apply zW; (· omega)) | (apply zX; (· (first | omega | (dsimp only; omega)))) | (apply zY; (try (apply zY; apply zX; (· omega))); apply zX; (· omega); apply zX; (· (first | omega | (dsimp only; omega)))) | ((first | apply yJ | apply yK | apply yL | apply yM | apply yN | apply yO); (· exact hgA); (· exact hsA)) | (apply yNP; (· exact hgA); (· exact hsA)) | ((first | apply zA | apply zC | apply zE | apply zG); (· omega)) | ((first | apply zB | apply zD | apply zF | apply zH); (· omega)) | ((first | apply zI | apply zK); (· with_reducible assumption)) | ((first | apply zJ | apply zL); (· with_reducible assumption)) | fail)
  conv => whnf
  generalize hH0 : H.push _ = H0
  have hle0 : H.le H0 := by subst hH0; exact AHeap.le.push (AHeap.le.refl _) _
  have ge0 : H0.get H.size = some (.cells [iv 0] true 0) := by subst hH0; exact AHeap.push_new _ _
  have hz0 : H0.size = H.size + 1 := by subst hH0; exact AHeap.push_size _ _
  have hkp0 := hle0.kp
  refine loopS_mask tt_ok (fun (k : Nat) => [.k, .w, .k, .k, .w, .w, .w, .w, .w, .w, .w, .k, .k, .p (iv k), .w, .w, .w, .w, .w, .w, .w, .w, .w, .w, .w, .w, .w, .w, .w, .w, .w, .w, .w, .w, .w, .w, .w, .w, .w, .w, .w, .w, .w, .w, .w, .w, .w, .w, .w, .w, .w, .w, .w, .w, .w, .w, .w, .w, .w, .w, .w, .w, .w, .w, .w, .w, .w, .w, .w, .w, .w, .w, .w, .w, .w]) (fun (k : Nat) => H0) (fun (k : Nat) => k ≤ l.length ∧ ∀ j (hj : j < l.length), j < k → blockB l[j] = true) (fun (k : Nat) => l.length - k) (0) (⟨by omega, fun j hj h1 => absurd h1 (Nat.not_lt_zero _)⟩) ?_ (fun k hk => ?_)
  · conv => whnf
    refine weakH_of (HW.refl _) ?_
    repeat' (first | exact WT.nil | refine WT.same ?_ | refine WT.drop ?_ | refine WT.int (by omega) ?_ | refine WT.eq (by assumption) ?_ | refine WT.bl (by first | assumption | (symm; assumption)) ?_ | refine WT.vv (by assumption) ?_)
  obtain ⟨hk, hvk⟩ := hk
  by_cases hkl : k < l.length
  · obtain ⟨i0, off, rfl⟩ := hl.at hkl
    cases hb : blockB l[k] with
    | false =>
      have hE := joinE_bad1 hkl hb
      rw [hE] at hbad
      repeat' ((conv => whnf); first | (apply layValid_v; (· exact mtA); (· with_reducible assumption)) | (apply must_no; (· (first | rfl | assumption | exact decide_eq_false (by omega)))) | (apply caught_panic; (· exact hoA); (· exact hgA); intro H2 hle2 hg2) | ((first | (apply vB; (case h => with_reducible assumption)) | (apply vA; (case h => with_reducible assumption)) | (apply vC; (case h => with_reducible assumption))); (case hk => exact kpA); (case he => omega)) | ((first | (apply vI; (case h => with_reducible assumption)) | (apply vG; (case h => with_reducible assumption)) | (apply vK; (case h => with_reducible assumption))); (case hk => exact kpA); (case he => omega); (case hp => omega); (case' g => intro hr_ hc_)) | ((first | (apply vJ; (case h => with_reducible assumption)) | (apply vH; (case h => with_reducible assumption)) | (apply vL; (case h => with_reducible assumption))); (case hk => exact kpA); (case he => omega); (case' g => intro hr_ hc_)) | (apply drawS_auto mixed tt_ok; (· kernel_rfl)) | apply zZ | apply yA | apply yB | ((first | apply zA | apply zC | apply zE | apply zG); (· with_reducible assumption)) | ((first | apply zB | apply zD | apply zF | apply zH); (· with_reducible assumption)) | apply zM | apply zN | apply zO | apply zP | apply zQ | apply zR | apply zS | apply zT | apply zU | (apply zV; (· omega)) | (apply zW; (· omega)) | (apply zX; (· (first | omega | (dsimp only; omega)))) | (apply zY; (try (apply zY; apply zX; (· omega))); apply zX; (· omega); apply zX; (· (first | omega | (dsimp only; omega)))) | ((first | apply yJ | apply yK | apply yL | apply yM | apply yN | apply yO); (· exact hgA); (· exact hsA)) | (apply yNP; (· exact hgA); (· exact hsA)) | ((first | apply zA | apply zC | apply zE | apply zG); (· omega)) | ((first | apply zB | apply zD | apply zF | apply zH); (· omega)) | ((first | apply zI | apply zK); (· with_reducible assumption)) | ((first | apply zJ | apply zL); (· with_reducible assumption)) | fail)
      conv => whnf
      exact hbad _ _ _ _ (AHeap.le.trans leA hle2) (by omega)
    | true =>
      repeat' ((conv => whnf); first | (apply layValid_v; (· exact mtA); (· with_reducible assumption)) | (apply must_ok; (· (first | rfl | assumption | exact decide_eq_true (by omega)))) | ((first | (apply vB; (case h => with_reducible assumption)) | (apply vA; (case h => with_reducible assumption)) | (apply vC; (case h => with_reducible assumption))); (case hk => exact kpA); (case he => omega)) | ((first | (apply vI; (case h => with_reducible assumption)) | (apply vG; (case h => with_reducible assumption)) | (apply vK; (case h => with_reducible assumption))); (case hk => exact kpA); (case he => omega); (case hp => omega); (case' g => intro hr_ hc_)) | ((first | (apply vJ; (case h => with_reducible assumption)) | (apply vH; (case h => with_reducible assumption)) | (apply vL; (case h => with_reducible assumption))); (case hk => exact kpA); (case he => omega); (case' g => intro hr_ hc_)) | (apply drawS_auto mixed tt_ok; (· kernel_rfl)) | apply zZ | apply yA | apply yB | ((first | apply zA | apply zC | apply zE | apply zG); (· with_reducible assumption)) | ((first | apply zB | apply zD | apply zF | apply zH); (· with_reducible assumption)) | apply zM | apply zN | apply zO | apply zP | apply zQ | apply zR | apply zS | apply zT | apply zU | (apply zV; (· omega)) | (apply zW; (· omega)) | (apply zX; (· (first | omega | (dsimp only; omega)))) | (apply zY; (try (apply zY; apply zX; (· omega))); apply zX; (· omega); apply zX; (· (first | omega | (dsimp only; omega)))) | ((first | apply yJ | apply yK | apply yL | apply yM | apply yN | apply yO); (· exact hgA); (· exact hsA)) | (apply yNP; (· exact hgA); (· exact hsA)) | ((first | apply zA | apply zC | apply zE | apply zG); (· omega)) | ((first | apply zB | apply zD | apply zF | apply zH); (· omega)) | ((first | apply zI | apply zK); (· with_reducible assumption)) | ((first | apply zJ | apply zL); (· with_reducible assumption)) | fail)
      conv => whnf
      apply Exists.intro (k + 1)
      refine ⟨?inv, ?mu, ?wk⟩
      case wk =>
        conv => whnf
        refine weakH_of (HW.refl _) ?_
        repeat' (first | exact WT.nil | refine WT.same ?_ | refine WT.drop ?_ | refine WT.int (by omega) ?_ | refine WT.eq (by assumption) ?_ | refine WT.bl (by first | assumption | (symm; assumption)) ?_ | refine WT.vv (by assumption) ?_)
      case mu => first | omega | (dsimp only; omega)
      case inv => exact ⟨by omega, fun j hj h1 => by
        by_cases h2 : j = k
        · subst h2; exact hb
        · exact hvk j hj (by omega)⟩
  · have ha := all_valid (fun j hj => hvk j hj (by omega))
    clear hvk
    by_cases h0 : 0 < l.length
    · obtain ⟨i0, off, rfl⟩ := hl.at h0
      have hd := headD_at h0
      have hC0 := (cut_rows (List.all_eq_true.1 ha l[0] (List.getElem_mem h0))).1
      repeat' ((conv => whnf); first | (apply must_ok; (· (first | rfl | assumption | exact decide_eq_true (by omega)))) | ((first | (apply vB; (case h => with_reducible assumption)) | (apply vA; (case h => with_reducible assumption)) | (apply vC; (case h => with_reducible assumption))); (case hk => exact kpA); (case he => omega)) | ((first | (apply vI; (case h => with_reducible assumption)) | (apply vG; (case h => with_reducible assumption)) | (apply vK; (case h => with_reducible assumption))); (case hk => exact kpA); (case he => omega); (case hp => omega); (case' g => intro hr_ hc_)) | ((first | (apply vJ; (case h => with_reducible assumption)) | (apply vH; (case h => with_reducible assumption)) | (apply vL; (case h => with_reducible assumption))); (case hk => exact kpA); (case he => omega); (case' g => intro hr_ hc_)) | (apply drawS_auto mixed tt_ok; (· kernel_rfl)) | apply zZ | apply yA | apply yB | ((first | apply zA | apply zC | apply zE | apply zG); (· with_reducible assumption)) | ((first | apply zB | apply zD | apply zF | apply zH); (· with_reducible assumption)) | apply zM | apply zN | apply zO | apply zP | apply zQ | apply zR | apply zS | apply zT | apply zU | (apply zV; (· omega)) | (apply zW; (· omega)) | (apply zX; (· (first | omega | (dsimp only; omega)))) | (apply zY; (try (apply zY; apply zX; (· omega))); apply zX; (· omega); apply zX; (· (first | omega | (dsimp only; omega)))) | ((first | apply yJ | apply yK | apply yL | apply yM | apply yN | apply yO); (· exact hgA); (· exact hsA)) | (apply yNP; (· exact hgA); (· exact hsA)) | ((first | apply zA | apply zC | apply zE | apply zG); (· omega)) | ((first | apply zB | apply zD | apply zF | apply zH); (· omega)) | ((first | apply zI | apply zK); (· with_reducible assumption)) | ((first | apply zJ | apply zL); (· with_reducible assumption)) | fail)
      conv => whnf
      rw [Int.toNat_natCast]
      generalize hH1 : H0.push _ = H1
      have hle1 : H.le H1 := by subst hH1; exact AHeap.le.push hle0 _
      have hz1 : H1.size = H.size + 2 := by subst hH1; rw [AHeap.push_size, hz0]
      have ge1 : H1.get H.size = some (.cells [iv 0] true 0) := by subst hH1; exact (AHeap.push_ne _ _ (by omega)).trans ge0
      have hout1 : H1.get H0.size = some (.cells (List.replicate l[0].length (.slice none 0 0)) true 1) := by subst hH1; exact (AHeap.push_new _ _).trans (congrArg (fun z => some (AObj.cells z true 1)) (zeroRow_one _ _))
      have hor1 := ors_nil (base := H0.size) (l := l) (by rw [hd]) hout1 (Nat.le_refl _) (by omega)
      have hkp1 := hle1.kp
      refine loopS_mask tt_ok (fun (i : Nat) => [.k, .w, .k, .k, .w, .w, .w, .w, .w, .w, .w, .w, .w, .w, .w, .w, .w, .w, .w, .w, .w, .w, .w, .w, .w, .w, .w, .w, .w, .w, .k, .k, .p (iv i), .w, .w, .w, .w, .w, .w, .w, .w, .w, .w, .w, .w, .w, .w, .w, .w, .w, .w, .w, .w, .w, .w, .w, .w, .w, .w, .w, .w, .w, .w, .w, .w, .w, .w, .w, .w, .w, .w, .w, .w, .w, .w]) (fun (i : Nat) => H1) (fun (i : Nat) => i ≤ l.length ∧ ∀ j (hj : j < l.length), j < i → l[j].length = (l.headD []).length) (fun (i : Nat) => l.length - i) (0) (⟨by omega, fun j hj h1 => absurd h1 (Nat.not_lt_zero _)⟩) ?_ (fun i hi => ?_)
      · conv => whnf
        refine weakH_of (HW.refl _) ?_
        repeat' (first | exact WT.nil | refine WT.same ?_ | refine WT.drop ?_ | refine WT.int (by omega) ?_ | refine WT.eq (by assumption) ?_ | refine WT.bl (by first | assumption | (symm; assumption)) ?_ | refine WT.vv (by assumption) ?_)
      obtain ⟨hi, hli⟩ := hi
      by_cases hil : i < l.length
      · by_cases hle : l[i].length = (l.headD []).length
        · rw [hd] at hle
          repeat' ((conv => whnf); first | (apply must_ok; (· (first | rfl | assumption | exact decide_eq_true (by omega)))) | ((first | (apply vB; (case h => with_reducible assumption)) | (apply vA; (case h => with_reducible assumption)) | (apply vC; (case h => with_reducible assumption))); (case hk => exact kpA); (case he => omega)) | ((first | (apply vI; (case h => with_reducible assumption)) | (apply vG; (case h => with_reducible assumption)) | (apply vK; (case h => with_reducible assumption))); (case hk => exact kpA); (case he => omega); (case hp => omega); (case' g => intro hr_ hc_)) | ((first | (apply vJ; (case h => with_reducible assumption)) | (apply vH; (case h => with_reducible assumption)) | (apply vL; (case h => with_reducible assumption))); (case hk => exact kpA); (case he => omega); (case' g => intro hr_ hc_)) | (apply drawS_auto mixed tt_ok; (· kernel_rfl)) | apply zZ | apply yA | apply yB | ((first | apply zA | apply zC | apply zE | apply zG); (· with_reducible assumption)) | ((first | apply zB | apply zD | apply zF | apply zH); (· with_reducible assumption)) | apply zM | apply zN | apply zO | apply zP | apply zQ | apply zR | apply zS | apply zT | apply zU | (apply zV; (· omega)) | (apply zW; (· omega)) | (apply zX; (· (first | omega | (dsimp only; omega)))) | (apply zY; (try (apply zY; apply zX; (· omega))); apply zX; (· omega); apply zX; (· (first | omega | (dsimp only; omega)))) | ((first | apply yJ | apply yK | apply yL | apply yM | apply yN | apply yO); (· exact hgA); (· exact hsA)) | (apply yNP; (· exact hgA); (· exact hsA)) | ((first | apply zA | apply zC | apply zE | apply zG); (· omega)) | ((first | apply zB | apply zD | apply zF | apply zH); (· omega)) | ((first | apply zI | apply zK); (· with_reducible assumption)) | ((first | apply zJ | apply zL); (· with_reducible assumption)) | fail)
          conv => whnf
          apply Exists.intro (i + 1)
          refine ⟨?inv, ?mu, ?wk⟩
          case wk =>
            conv => whnf
            refine weakH_of (HW.refl _) ?_
            repeat' (first | exact WT.nil | refine WT.same ?_ | refine WT.drop ?_ | refine WT.int (by omega) ?_ | refine WT.eq (by assumption) ?_ | refine WT.bl (by first | assumption | (symm; assumption)) ?_ | refine WT.vv (by assumption) ?_)
          case mu => first | omega | (dsimp only; omega)
          case inv => exact ⟨by omega, fun j hj h1 => by
            by_cases h2 : j = i
            · subst h2; rw [hd]; exact hle
            · exact hli j hj (by omega)⟩
        · have hE := joinE_len ha hil hle
          rw [hE] at hbad
          rw [hd] at hle
          repeat' ((conv => whnf); first | (apply must_no; (· (first | rfl | assumption | exact decide_eq_false (by omega)))) | (apply caught_panic; (· exact hoA); (· exact hgA); intro H2 hle2 hg2) | ((first | (apply vB; (case h => with_reducible assumption)) | (apply vA; (case h => with_reducible assumption)) | (apply vC; (case h => with_reducible assumption))); (case hk => exact kpA); (case he => omega)) | ((first | (apply vI; (case h => with_reducible assumption)) | (apply vG; (case h => with_reducible assumption)) | (apply vK; (case h => with_reducible assumption))); (case hk => exact kpA); (case he => omega); (case hp => omega); (case' g => intro hr_ hc_)) | ((first | (apply vJ; (case h => with_reducible assumption)) | (apply vH; (case h => with_reducible assumption)) | (apply vL; (case h => with_reducible assumption))); (case hk => exact kpA); (case he => omega); (case' g => intro hr_ hc_)) | (apply drawS_auto mixed tt_ok; (· kernel_rfl)) | apply zZ | apply yA | apply yB | ((first | apply zA | apply zC | apply zE | apply zG); (· with_reducible assumption)) | ((first | apply zB | apply zD | apply zF | apply zH); (· with_reducible assumption)) | apply zM | apply zN | apply zO | apply zP | apply zQ | apply zR | apply zS | apply zT | apply zU | (apply zV; (· omega)) | (apply zW; (· omega)) | (apply zX; (· (first | omega | (dsimp only; omega)))) | (apply zY; (try (apply zY; apply zX; (· omega))); apply zX; (· omega); apply zX; (· (first | omega | (dsimp only; omega)))) | ((first | apply yJ | apply yK | apply yL | apply yM | apply yN | apply yO); (· exact hgA); (· exact hsA)) | (apply yNP; (· exact hgA); (· exact hsA)) | ((first | apply zA | apply zC | apply zE | apply zG); (· omega)) | ((first | apply zB | apply zD | apply zF | apply zH); (· omega)) | ((first | apply zI | apply zK); (· with_reducible assumption)) | ((first | apply zJ | apply zL); (· with_reducible assumption)) | fail)
          conv => whnf
          exact hbad _ _ _ _ (AHeap.le.trans leA hle2) (by omega)
      · have hlall : ∀ j (hj : j < l.length), l[j].length = (l.headD []).length := fun j hj => hli j hj (by omega)
        have hjE := joinE_fin ha h0 hlall
        have hok' := jOk_of ha hlall
        repeat' ((conv => whnf); first | ((first | (apply vB; (case h => with_reducible assumption)) | (apply vA; (case h => with_reducible assumption)) | (apply vC; (case h => with_reducible assumption))); (case hk => exact kpA); (case he => omega)) | ((first | (apply vI; (case h => with_reducible assumption)) | (apply vG; (case h => with_reducible assumption)) | (apply vK; (case h => with_reducible assumption))); (case hk => exact kpA); (case he => omega); (case hp => omega); (case' g => intro hr_ hc_)) | ((first | (apply vJ; (case h => with_reducible assumption)) | (apply vH; (case h => with_reducible assumption)) | (apply vL; (case h => with_reducible assumption))); (case hk => exact kpA); (case he => omega); (case' g => intro hr_ hc_)) | (apply drawS_auto mixed tt_ok; (· kernel_rfl)) | apply zZ | apply yA | apply yB | ((first | apply zA | apply zC | apply zE | apply zG); (· with_reducible assumption)) | ((first | apply zB | apply zD | apply zF | apply zH); (· with_reducible assumption)) | apply zM | apply zN | apply zO | apply zP | apply zQ | apply zR | apply zS | apply zT | apply zU | (apply zV; (· omega)) | (apply zW; (· omega)) | (apply zX; (· (first | omega | (dsimp only; omega)))) | (apply zY; (try (apply zY; apply zX; (· omega))); apply zX; (· omega); apply zX; (· (first | omega | (dsimp only; omega)))) | ((first | apply yJ | apply yK | apply yL | apply yM | apply yN | apply yO); (· exact hgA); (· exact hsA)) | (apply yNP; (· exact hgA); (· exact hsA)) | ((first | apply zA | apply zC | apply zE | apply zG); (· omega)) | ((first | apply zB | apply zD | apply zF | apply zH); (· omega)) | ((first | apply zI | apply zK); (· with_reducible assumption)) | ((first | apply zJ | apply zL); (· with_reducible assumption)) | fail)
        conv => whnf
        refine loopS_mask tt_ok (fun (i : Nat × AHeap × List Value) => [.w, .w, .k, .k, .w, .w, .w, .w, .w, .w, .w, .w, .w, .w, .w, .w, .w, .w, .w, .w, .w, .w, .w, .w, .w, .w, .w, .w, .w, .w, .w, .w, .w, .w, .w, .w, .w, .w, .w, .w, .w, .w, .w, .k, .k, .p (iv i.1), .w, .w, .w, .w, .w, .w, .w, .w, .w, .w, .w, .w, .w, .w, .w, .w, .w, .w, .w, .w, .w, .w, .w, .w, .w, .w, .w, .w, .w]) (fun (i : Nat × AHeap × List Value) => i.2.1) (fun (i : Nat × AHeap × List Value) => i.1 ≤ l.length ∧ H.le i.2.1 ∧ i.2.1.get H.size = some (.cells [iv 0] true 0) ∧ ORs i.2.1 H0.size H0.size i.2.2 (jM l i.1) ∧ jT l i.1 ≤ 4096) (fun (i : Nat × AHeap × List Value) => l.length - i.1) (⟨0, H1, List.replicate l[0].length (.slice none 0 0)⟩) (⟨by omega, hle1, ge1, hor1, Nat.zero_le _⟩) ?_ (fun i hi => ?_)
        · conv => whnf
          refine weakH_of (HW.refl _) ?_
          repeat' (first | exact WT.nil | refine WT.same ?_ | refine WT.drop ?_ | refine WT.int (by omega) ?_ | refine WT.eq (by assumption) ?_ | refine WT.bl (by first | assumption | (symm; assumption)) ?_ | refine WT.vv (by assumption) ?_)
        obtain ⟨i, H2, vs⟩ := i
        obtain ⟨hi2, hle2, ge2, hor2, hT2⟩ := hi
        dsimp only at hi2 hle2 ge2 hor2 hT2 ⊢
        have hkp2 := hle2.kp
        by_cases hil2 : i < l.length
        · have hvi := List.all_eq_true.1 ha l[i] (List.getElem_mem hil2)
          obtain ⟨hCi, hNi, hRi⟩ := cut_rows hvi
          have hlen := hlall i hil2
          rw [hd] at hlen
          have hTs := jT_succ hil2
          have hTb := jT_bd ha (i + 1) hil2
          repeat' ((conv => whnf); first | ((first | (apply vB; (case h => with_reducible assumption)) | (apply vA; (case h => with_reducible assumption)) | (apply vC; (case h => with_reducible assumption))); (case hk => exact kpA); (case he => omega)) | ((first | (apply vI; (case h => with_reducible assumption)) | (apply vG; (case h => with_reducible assumption)) | (apply vK; (case h => with_reducible assumption))); (case hk => exact kpA); (case he => omega); (case hp => omega); (case' g => intro hr_ hc_)) | ((first | (apply vJ; (case h => with_reducible assumption)) | (apply vH; (case h => with_reducible assumption)) | (apply vL; (case h => with_reducible assumption))); (case hk => exact kpA); (case he => omega); (case' g => intro hr_ hc_)) | (apply drawS_auto mixed tt_ok; (· kernel_rfl)) | apply zZ | apply yA | apply yB | ((first | apply zA | apply zC | apply zE | apply zG); (· with_reducible assumption)) | ((first | apply zB | apply zD | apply zF | apply zH); (· with_reducible assumption)) | apply zM | apply zN | apply zO | apply zP | apply zQ | apply zR | apply zS | apply zT | apply zU | (apply zV; (· omega)) | (apply zW; (· omega)) | (apply zX; (· (first | omega | (dsimp only; omega)))) | (apply zY; (try (apply zY; apply zX; (· omega))); apply zX; (· omega); apply zX; (· (first | omega | (dsimp only; omega)))) | ((first | apply yJ | apply yK | apply yL | apply yM | apply yN | apply yO); (· exact hgA); (· exact hsA)) | (apply yNP; (· exact hgA); (· exact hsA)) | ((first | apply zA | apply zC | apply zE | apply zG); (· omega)) | ((first | apply zB | apply zD | apply zF | apply zH); (· omega)) | ((first | apply zI | apply zK); (· with_reducible assumption)) | ((first | apply zJ | apply zL); (· with_reducible assumption)) | fail)
          conv => whnf
          refine loopS_mask tt_ok (fun (c : Nat × AHeap × List Value) => [.w, .w, .k, .k, .w, .w, .w, .w, .w, .k, .w, .w, .w, .w, .w, .w, .w, .w, .w, .w, .w, .w, .w, .w, .w, .w, .w, .w, .w, .w, .w, .w, .w, .w, .w, .w, .w, .w, .w, .w, .w, .w, .w, .k, .k, .k, .w, .w, .w, .w, .k, .p (iv c.1), .w, .w, .w, .w, .w, .w, .w, .w, .w, .w, .w, .w, .w, .w, .w, .w, .w, .w, .w, .w, .w, .w, .w]) (fun (c : Nat × AHeap × List Value) => c.2.1) (fun (c : Nat × AHeap × List Value) => c.1 ≤ l[0].length ∧ H.le c.2.1 ∧ c.2.1.get H.size = some (.cells [iv 0] true 0) ∧ ORs c.2.1 H0.size H0.size c.2.2 (jP l i c.1)) (fun (c : Nat × AHeap × List Value) => l[0].length - c.1) (⟨0, H2, vs⟩) (⟨by omega, hle2, ge2, by rw [jP_zero]; exact hor2⟩) ?_ (fun c hc => ?_)
          · conv => whnf
            refine weakH_of (HW.refl _) ?_
            repeat' (first | exact WT.nil | refine WT.same ?_ | refine WT.drop ?_ | refine WT.int (by omega) ?_ | refine WT.eq (by assumption) ?_ | refine WT.bl (by first | assumption | (symm; assumption)) ?_ | refine WT.vv (by assumption) ?_)
          obtain ⟨c, H3, ws⟩ := c
          obtain ⟨hc3, hle3, ge3, hor3⟩ := hc
          dsimp only at hc3 hle3 ge3 hor3 ⊢
          have hkp3 := hle3.kp
          have hwl : ws.length = l[0].length := by rw [hor3.len, jP_len, hd]
          by_cases hcl : c < l[0].length
          · have hcw : c < ws.length := by omega
            have hcm : c < (jP l i c).length := by rw [← hor3.len]; exact hcw
            have hrow := hor3.row c hcw hcm
            have hxg : (jP l i c)[c] = jR l i c := by rw [jP_get, if_neg (Nat.lt_irrefl _)]
            rw [hxg] at hrow
            have hci : c < l[i].length := by omega
            have hyg : l[i].getD c [] = l[i][c] := by simp [List.getD_eq_getElem?_getD, hci]
            have hjs := jR_succ (c := c) hil2
            rw [hyg] at hjs
            have hset := jP_set (l := l) (i := i) (c := c) (by rw [hd]; exact hcl)
            have hyl := (hRi _ (List.getElem_mem hci)).1
            have hxl := (jR_ok hok' (c := c) (by rw [hd]; exact hcl) i hi2).1
            have hcap := hor3.lo
            have hout3 := hor3.out
            rcases hrow with ⟨hv, hx0⟩ | ⟨r, hv, hgr, hr1, hr2, hr3⟩
            · rw [hx0, List.nil_append] at hjs
              by_cases hy0 : l[i][c].length = 0
              · have hq : Nat.beq l[i][c].length 0 = true := by rw [hy0]; rfl
                have hy1 : jR l (i + 1) c = [] := by rw [hjs]; exact List.eq_nil_of_length_eq_zero hy0
                rw [hy1] at hset
                repeat' ((conv => whnf); first | refine loadK_own hor3.out hcw hv ?_ | (refine srcK_row (by assumption) (by assumption) kpA ?_) | refine condK_true hq ?_ | (refine storeK_own ?_ hcw ?_; (· exact hgA)) | ((first | (apply vB; (case h => with_reducible assumption)) | (apply vA; (case h => with_reducible assumption)) | (apply vC; (case h => with_reducible assumption))); (case hk => exact kpA); (case he => omega)) | ((first | (apply vI; (case h => with_reducible assumption)) | (apply vG; (case h => with_reducible assumption)) | (apply vK; (case h => with_reducible assumption))); (case hk => exact kpA); (case he => omega); (case hp => omega); (case' g => intro hr_ hc_)) | ((first | (apply vJ; (case h => with_reducible assumption)) | (apply vH; (case h => with_reducible assumption)) | (apply vL; (case h => with_reducible assumption))); (case hk => exact kpA); (case he => omega); (case' g => intro hr_ hc_)) | (apply drawS_auto mixed tt_ok; (· kernel_rfl)) | apply zZ | apply yA | apply yB | ((first | apply zA | apply zC | apply zE | apply zG); (· with_reducible assumption)) | ((first | apply zB | apply zD | apply zF | apply zH); (· with_reducible assumption)) | apply zM | apply zN | apply zO | apply zP | apply zQ | apply zR | apply zS | apply zT | apply zU | (apply zV; (· omega)) | (apply zW; (· omega)) | (apply zX; (· (first | omega | (dsimp only; omega)))) | (apply zY; (try (apply zY; apply zX; (· omega))); apply zX; (· omega); apply zX; (· (first | omega | (dsimp only; omega)))) | ((first | apply yJ | apply yK | apply yL | apply yM | apply yN | apply yO); (· exact hgA); (· exact hsA)) | (apply yNP; (· exact hgA); (· exact hsA)) | ((first | apply zA | apply zC | apply zE | apply zG); (· omega)) | ((first | apply zB | apply zD | apply zF | apply zH); (· omega)) | ((first | apply zI | apply zK); (· with_reducible assumption)) | ((first | apply zJ | apply zL); (· with_reducible assumption)) | fail)
                conv => whnf
                apply Exists.intro (c + 1, _, ws.set c (.slice none 0 0))
                refine ⟨?inv, ?mu, ?wk⟩
                case wk =>
                  conv => whnf
                  refine weakH_of (HW.refl _) ?_
                  repeat' (first | exact WT.nil | refine WT.same ?_ | refine WT.drop ?_ | refine WT.int (by omega) ?_ | refine WT.eq (by assumption) ?_ | refine WT.bl (by first | assumption | (symm; assumption)) ?_ | refine WT.vv (by assumption) ?_)
                case mu => first | omega | (dsimp only; omega)
                case inv => exact ⟨by omega, AHeap.le.set hle3 (by omega) _, (AHeap.set_ne _ _ (by omega)).trans ge3, by rw [← hset]; exact hor3.upd hcw (Nat.le_refl _) (by omega) (AHeap.set_same _ _ _) (.inl ⟨rfl, rfl⟩) (fun j hj n1 n2 => AHeap.set_ne _ _ n1)⟩
              · have hq : Nat.beq l[i][c].length 0 = false := by cases hh : l[i][c].length with
                  | zero => exact absurd hh hy0
                  | succ _ => rfl
                rw [hjs] at hset
                repeat' ((conv => whnf); first | refine loadK_own hor3.out hcw hv ?_ | (refine srcK_row (by assumption) (by assumption) kpA ?_) | (refine loadsK_row (xs := l[i][c]) (by assumption) kpA ?_) | refine condK_false hq ?_ | (refine storeK_own (vs := ws) ?_ hcw ?_; (· exact hgA)) | ((first | (apply vB; (case h => with_reducible assumption)) | (apply vA; (case h => with_reducible assumption)) | (apply vC; (case h => with_reducible assumption))); (case hk => exact kpA); (case he => omega)) | ((first | (apply vI; (case h => with_reducible assumption)) | (apply vG; (case h => with_reducible assumption)) | (apply vK; (case h => with_reducible assumption))); (case hk => exact kpA); (case he => omega); (case hp => omega); (case' g => intro hr_ hc_)) | ((first | (apply vJ; (case h => with_reducible assumption)) | (apply vH; (case h => with_reducible assumption)) | (apply vL; (case h => with_reducible assumption))); (case hk => exact kpA); (case he => omega); (case' g => intro hr_ hc_)) | (apply drawS_auto mixed tt_ok; (· kernel_rfl)) | apply zZ | apply yA | apply yB | ((first | apply zA | apply zC | apply zE | apply zG); (· with_reducible assumption)) | ((first | apply zB | apply zD | apply zF | apply zH); (· with_reducible assumption)) | apply zM | apply zN | apply zO | apply zP | apply zQ | apply zR | apply zS | apply zT | apply zU | (apply zV; (· omega)) | (apply zW; (· omega)) | (apply zX; (· (first | omega | (dsimp only; omega)))) | (apply zY; (try (apply zY; apply zX; (· omega))); apply zX; (· omega); apply zX; (· (first | omega | (dsimp only; omega)))) | ((first | apply yJ | apply yK | apply yL | apply yM | apply yN | apply yO); (· exact hgA); (· exact hsA)) | (apply yNP; (· exact hgA); (· exact hsA)) | ((first | apply zA | apply zC | apply zE | apply zG); (· omega)) | ((first | apply zB | apply zD | apply zF | apply zH); (· omega)) | ((first | apply zI | apply zK); (· with_reducible assumption)) | ((first | apply zJ | apply zL); (· with_reducible assumption)) | fail)
                conv => whnf
                apply Exists.intro (c + 1, _, ws.set c (.slice (some ⟨H3.size, 0, none⟩) l[i][c].length l[i][c].length))
                refine ⟨?inv, ?mu, ?wk⟩
                case wk =>
                  conv => whnf
                  refine weakH_of (HW.refl _) ?_
                  repeat' (first | exact WT.nil | refine WT.same ?_ | refine WT.drop ?_ | refine WT.int (by omega) ?_ | refine WT.eq (by assumption) ?_ | refine WT.bl (by first | assumption | (symm; assumption)) ?_ | refine WT.vv (by assumption) ?_)
                case mu => first | omega | (dsimp only; omega)
                case inv => exact ⟨by omega, AHeap.le.set (AHeap.le.push hle3 _) (by omega) _, (AHeap.set_ne _ _ (by omega)).trans ((AHeap.push_ne _ _ (by omega)).trans ge3), by rw [← hset]; exact hor3.upd hcw (Nat.le_succ _) (by omega) (AHeap.set_same _ _ _) (.inr ⟨H3.size, rfl, (AHeap.set_ne _ _ (by omega)).trans (AHeap.push_new _ _), Nat.le_refl _, (Nat.lt_succ_self _)⟩) (fun j hj n1 n2 => (AHeap.set_ne _ _ n1).trans (AHeap.push_ne _ _ (by omega)))⟩
            · rw [hjs] at hset
              have hap : (jR l i c ++ l[i][c]).length = (jR l i c).length + l[i][c].length := List.length_append
              repeat' ((conv => whnf); first | refine loadK_own hor3.out hcw hv ?_ | (refine srcK_row (by assumption) (by assumption) kpA ?_) | (refine storeK_own (vs := ws) ?_ hcw ?_; (· exact hgA)) | ((first | (apply vB; (case h => with_reducible assumption)) | (apply vA; (case h => with_reducible assumption)) | (apply vC; (case h => with_reducible assumption))); (case hk => exact kpA); (case he => omega)) | ((first | (apply vI; (case h => with_reducible assumption)) | (apply vG; (case h => with_reducible assumption)) | (apply vK; (case h => with_reducible assumption))); (case hk => exact kpA); (case he => omega); (case hp => omega); (case' g => intro hr_ hc_)) | ((first | (apply vJ; (case h => with_reducible assumption)) | (apply vH; (case h => with_reducible assumption)) | (apply vL; (case h => with_reducible assumption))); (case hk => exact kpA); (case he => omega); (case' g => intro hr_ hc_)) | (apply drawS_auto mixed tt_ok; (· kernel_rfl)) | apply zZ | apply yA | apply yB | ((first | apply zA | apply zC | apply zE | apply zG); (· with_reducible assumption)) | ((first | apply zB | apply zD | apply zF | apply zH); (· with_reducible assumption)) | apply zM | apply zN | apply zO | apply zP | apply zQ | apply zR | apply zS | apply zT | apply zU | (apply zV; (· omega)) | (apply zW; (· omega)) | (apply zX; (· (first | omega | (dsimp only; omega)))) | (apply zY; (try (apply zY; apply zX; (· omega))); apply zX; (· omega); apply zX; (· (first | omega | (dsimp only; omega)))) | ((first | apply yJ | apply yK | apply yL | apply yM | apply yN | apply yO); (· exact hgA); (· exact hsA)) | (apply yNP; (· exact hgA); (· exact hsA)) | ((first | apply zA | apply zC | apply zE | apply zG); (· omega)) | ((first | apply zB | apply zD | apply zF | apply zH); (· omega)) | ((first | apply zI | apply zK); (· with_reducible assumption)) | ((first | apply zJ | apply zL); (· with_reducible assumption)) | fail)
              conv => whnf
              rw [← hap]
              apply Exists.intro (c + 1, _, ws.set c (.slice (some ⟨H3.size, 0, none⟩) (jR l i c ++ l[i][c]).length (jR l i c ++ l[i][c]).length))
              refine ⟨?inv, ?mu, ?wk⟩
              case wk =>
                conv => whnf
                refine weakH_of (HW.refl _) ?_
                repeat' (first | exact WT.nil | refine WT.same ?_ | refine WT.drop ?_ | refine WT.int (by omega) ?_ | refine WT.eq (by assumption) ?_ | refine WT.bl (by first | assumption | (symm; assumption)) ?_ | refine WT.vv (by assumption) ?_)
              case mu => first | omega | (dsimp only; omega)
              case inv => exact ⟨by omega, AHeap.le.set (AHeap.le.push (AHeap.le.kill hle3 (by omega)) _) (by omega) _, (AHeap.set_ne _ _ (by omega)).trans ((AHeap.push_ne _ _ (by rw [AHeap.kill_size]; omega)).trans ((AHeap.kill_ne _ (by omega)).trans ge3)), by rw [← hset]; exact hor3.upd hcw (Nat.le_succ _) (by omega) (AHeap.set_same _ _ _) (.inr ⟨H3.size, rfl, (AHeap.set_ne _ _ (by omega)).trans ((AHeap.push_at _ _ (by rw [AHeap.kill_size])).trans (by rw [List.map_append])), Nat.le_refl _, Nat.lt_succ_self _⟩) (fun j hj n1 n2 => (AHeap.set_ne _ _ n1).trans ((AHeap.push_ne _ _ (by rw [AHeap.kill_size]; omega)).trans (AHeap.kill_ne _ (fun e => n2 _ _ (hv.trans (congrArg (fun z => Value.slice (some ⟨z, 0, none⟩) _ _) e.symm))))))⟩
          · have hce : c = l[0].length := by omega
            rw [hce, ← hd, jP_full] at hor3
            have hw0 : 0 < ws.length := by omega
            have hm0 : 0 < (jM l (i + 1)).length := by rw [← hor3.len]; exact hw0
            have hrow := hor3.row 0 hw0 hm0
            have hout3 := hor3.out
            have hg0 : (jM l (i + 1))[0] = jR l (i + 1) 0 := jM_get _
            have hx1 := (jR_ok hok' (c := 0) (by rw [hd]; omega) (i + 1) hil2).1
            rw [hg0] at hrow
            rcases hrow with ⟨hv, hx0⟩ | ⟨r, hv, hgr, hr1, hr2, hr3⟩
            · have hT0 : jT l (i + 1) = 0 := by rw [← hx1, hx0]; rfl
              have hT00 : jT l (i + 1) ≤ 4096 := by omega
              repeat' ((conv => whnf); first | refine loadK_own0 hout3 hw0 hv ?_ | (apply must_ok; (· (first | rfl | assumption | exact decide_eq_true (by omega)))) | ((first | (apply vB; (case h => with_reducible assumption)) | (apply vA; (case h => with_reducible assumption)) | (apply vC; (case h => with_reducible assumption))); (case hk => exact kpA); (case he => omega)) | ((first | (apply vI; (case h => with_reducible assumption)) | (apply vG; (case h => with_reducible assumption)) | (apply vK; (case h => with_reducible assumption))); (case hk => exact kpA); (case he => omega); (case hp => omega); (case' g => intro hr_ hc_)) | ((first | (apply vJ; (case h => with_reducible assumption)) | (apply vH; (case h => with_reducible assumption)) | (apply vL; (case h => with_reducible assumption))); (case hk => exact kpA); (case he => omega); (case' g => intro hr_ hc_)) | (apply drawS_auto mixed tt_ok; (· kernel_rfl)) | apply zZ | apply yA | apply yB | ((first | apply zA | apply zC | apply zE | apply zG); (· with_reducible assumption)) | ((first | apply zB | apply zD | apply zF | apply zH); (· with_reducible assumption)) | apply zM | apply zN | apply zO | apply zP | apply zQ | apply zR | apply zS | apply zT | apply zU | (apply zV; (· omega)) | (apply zW; (· omega)) | (apply zX; (· (first | omega | (dsimp only; omega)))) | (apply zY; (try (apply zY; apply zX; (· omega))); apply zX; (· omega); apply zX; (· (first | omega | (dsimp only; omega)))) | ((first | apply yJ | apply yK | apply yL | apply yM | apply yN | apply yO); (· exact hgA); (· exact hsA)) | (apply yNP; (· exact hgA); (· exact hsA)) | ((first | apply zA | apply zC | apply zE | apply zG); (· omega)) | ((first | apply zB | apply zD | apply zF | apply zH); (· omega)) | ((first | apply zI | apply zK); (· with_reducible assumption)) | ((first | apply zJ | apply zL); (· with_reducible assumption)) | fail)
              conv => whnf
              apply Exists.intro (i + 1, H3, ws)
              refine ⟨?inv, ?mu, ?wk⟩
              case wk =>
                conv => whnf
                refine weakH_of (HW.refl _) ?_
                repeat' (first | exact WT.nil | refine WT.same ?_ | refine WT.drop ?_ | refine WT.int (by omega) ?_ | refine WT.eq (by assumption) ?_ | refine WT.bl (by first | assumption | (symm; assumption)) ?_ | refine WT.vv (by assumption) ?_)
              case mu => first | omega | (dsimp only; omega)
              case inv => exact ⟨by omega, hle3, ge3, hor3, hT00⟩
            · by_cases hT4 : jT l (i + 1) ≤ 4096
              · rw [hx1] at hv
                repeat' ((conv => whnf); first | refine loadK_own0 hout3 hw0 hv ?_ | (apply must_ok; (· (first | rfl | assumption | exact decide_eq_true (by omega)))) | ((first | (apply vB; (case h => with_reducible assumption)) | (apply vA; (case h => with_reducible assumption)) | (apply vC; (case h => with_reducible assumption))); (case hk => exact kpA); (case he => omega)) | ((first | (apply vI; (case h => with_reducible assumption)) | (apply vG; (case h => with_reducible assumption)) | (apply vK; (case h => with_reducible assumption))); (case hk => exact kpA); (case he => omega); (case hp => omega); (case' g => intro hr_ hc_)) | ((first | (apply vJ; (case h => with_reducible assumption)) | (apply vH; (case h => with_reducible assumption)) | (apply vL; (case h => with_reducible assumption))); (case hk => exact kpA); (case he => omega); (case' g => intro hr_ hc_)) | (apply drawS_auto mixed tt_ok; (· kernel_rfl)) | apply zZ | apply yA | apply yB | ((first | apply zA | apply zC | apply zE | apply zG); (· with_reducible assumption)) | ((first | apply zB | apply zD | apply zF | apply zH); (· with_reducible assumption)) | apply zM | apply zN | apply zO | apply zP | apply zQ | apply zR | apply zS | apply zT | apply zU | (apply zV; (· omega)) | (apply zW; (· omega)) | (apply zX; (· (first | omega | (dsimp only; omega)))) | (apply zY; (try (apply zY; apply zX; (· omega))); apply zX; (· omega); apply zX; (· (first | omega | (dsimp only; omega)))) | ((first | apply yJ | apply yK | apply yL | apply yM | apply yN | apply yO); (· exact hgA); (· exact hsA)) | (apply yNP; (· exact hgA); (· exact hsA)) | ((first | apply zA | apply zC | apply zE | apply zG); (· omega)) | ((first | apply zB | apply zD | apply zF | apply zH); (· omega)) | ((first | apply zI | apply zK); (· with_reducible assumption)) | ((first | apply zJ | apply zL); (· with_reducible assumption)) | fail)
                conv => whnf
                apply Exists.intro (i + 1, H3, ws)
                refine ⟨?inv, ?mu, ?wk⟩
                case wk =>
                  conv => whnf
                  refine weakH_of (HW.refl _) ?_
                  repeat' (first | exact WT.nil | refine WT.same ?_ | refine WT.drop ?_ | refine WT.int (by omega) ?_ | refine WT.eq (by assumption) ?_ | refine WT.bl (by first | assumption | (symm; assumption)) ?_ | refine WT.vv (by assumption) ?_)
                case mu => first | omega | (dsimp only; omega)
                case inv => exact ⟨by omega, hle3, ge3, hor3, hT4⟩
              · have hmo := jT_mono (l := l) (j := i + 1) (k := l.length) (by omega) (Nat.le_refl _)
                rw [if_neg (by omega)] at hjE
                rw [hjE] at hbad
                rw [hx1] at hv
                repeat' ((conv => whnf); first | refine loadK_own0 hout3 hw0 hv ?_ | (apply must_no; (· (first | rfl | assumption | exact decide_eq_false (by omega)))) | (apply caught_panic; (· exact hoA); (· exact hgA); intro H4 hle4 hg4) | ((first | (apply vB; (case h => with_reducible assumption)) | (apply vA; (case h => with_reducible assumption)) | (apply vC; (case h => with_reducible assumption))); (case hk => exact kpA); (case he => omega)) | ((first | (apply vI; (case h => with_reducible assumption)) | (apply vG; (case h => with_reducible assumption)) | (apply vK; (case h => with_reducible assumption))); (case hk => exact kpA); (case he => omega); (case hp => omega); (case' g => intro hr_ hc_)) | ((first | (apply vJ; (case h => with_reducible assumption)) | (apply vH; (case h => with_reducible assumption)) | (apply vL; (case h => with_reducible assumption))); (case hk => exact kpA); (case he => omega); (case' g => intro hr_ hc_)) | (apply drawS_auto mixed tt_ok; (· kernel_rfl)) | apply zZ | apply yA | apply yB | ((first | apply zA | apply zC | apply zE | apply zG); (· with_reducible assumption)) | ((first | apply zB | apply zD | apply zF | apply zH); (· with_reducible assumption)) | apply zM | apply zN | apply zO | apply zP | apply zQ | apply zR | apply zS | apply zT | apply zU | (apply zV; (· omega)) | (apply zW; (· omega)) | (apply zX; (· (first | omega | (dsimp only; omega)))) | (apply zY; (try (apply zY; apply zX; (· omega))); apply zX; (· omega); apply zX; (· (first | omega | (dsimp only; omega)))) | ((first | apply yJ | apply yK | apply yL | apply yM | apply yN | apply yO); (· exact hgA); (· exact hsA)) | (apply yNP; (· exact hgA); (· exact hsA)) | ((first | apply zA | apply zC | apply zE | apply zG); (· omega)) | ((first | apply zB | apply zD | apply zF | apply zH); (· omega)) | ((first | apply zI | apply zK); (· with_reducible assumption)) | ((first | apply zJ | apply zL); (· with_reducible assumption)) | fail)
                conv => whnf
                exact hbad _ _ _ _ (AHeap.le.trans leA hle4) (by omega)
        · have hie : i = l.length := by omega
          subst hie
          rw [if_pos hT2] at hjE
          rw [hd] at hok
          have hlo2 := hor2.lo
          repeat' ((conv => whnf); first | (apply caught_ret; (· exact hoA); (· exact hgA); intro H4 hle4 hg4) | ((first | (apply vB; (case h => with_reducible assumption)) | (apply vA; (case h => with_reducible assumption)) | (apply vC; (case h => with_reducible assumption))); (case hk => exact kpA); (case he => omega)) | ((first | (apply vI; (case h => with_reducible assumption)) | (apply vG; (case h => with_reducible assumption)) | (apply vK; (case h => with_reducible assumption))); (case hk => exact kpA); (case he => omega); (case hp => omega); (case' g => intro hr_ hc_)) | ((first | (apply vJ; (case h => with_reducible assumption)) | (apply vH; (case h => with_reducible assumption)) | (apply vL; (case h => with_reducible assumption))); (case hk => exact kpA); (case he => omega); (case' g => intro hr_ hc_)) | (apply drawS_auto mixed tt_ok; (· kernel_rfl)) | apply zZ | apply yA | apply yB | ((first | apply zA | apply zC | apply zE | apply zG); (· with_reducible assumption)) | ((first | apply zB | apply zD | apply zF | apply zH); (· with_reducible assumption)) | apply zM | apply zN | apply zO | apply zP | apply zQ | apply zR | apply zS | apply zT | apply zU | (apply zV; (· omega)) | (apply zW; (· omega)) | (apply zX; (· (first | omega | (dsimp only; omega)))) | (apply zY; (try (apply zY; apply zX; (· omega))); apply zX; (· omega); apply zX; (· (first | omega | (dsimp only; omega)))) | ((first | apply yJ | apply yK | apply yL | apply yM | apply yN | apply yO); (· exact hgA); (· exact hsA)) | (apply yNP; (· exact hgA); (· exact hsA)) | ((first | apply zA | apply zC | apply zE | apply zG); (· omega)) | ((first | apply zB | apply zD | apply zF | apply zH); (· omega)) | ((first | apply zI | apply zK); (· with_reducible assumption)) | ((first | apply zJ | apply zL); (· with_reducible assumption)) | fail)
          conv => whnf
          refine hok _ _ _ (AHeap.le.trans leA hle4) hjE ((hor2.of_get (by have := hle4.size; rw [AHeap.set_size] at this; exact this) (fun j h1 h2 => (hle4.get j (by rw [AHeap.set_size]; exact h2)).trans (AHeap.set_ne _ _ (by omega)))).lower (by omega))
    · have hz : l.length = 0 := by omega
      have hnil : l = [] := List.eq_nil_of_length_eq_zero hz
      have hE : joinE l = 11 := by rw [hnil]; exact joinE_empty
      rw [hE] at hbad
      repeat' ((conv => whnf); first | (apply must_no; (· (first | rfl | assumption | exact decide_eq_false (by omega)))) | (apply caught_panic; (· exact hoA); (· exact hgA); intro H2 hle2 hg2) | ((first | (apply vB; (case h => with_reducible assumption)) | (apply vA; (case h => with_reducible assumption)) | (apply vC; (case h => with_reducible assumption))); (case hk => exact kpA); (case he => omega)) | ((first | (apply vI; (case h => with_reducible assumption)) | (apply vG; (case h => with_reducible assumption)) | (apply vK; (case h => with_reducible assumption))); (case hk => exact kpA); (case he => omega); (case hp => omega); (case' g => intro hr_ hc_)) | ((first | (apply vJ; (case h => with_reducible assumption)) | (apply vH; (case h => with_reducible assumption)) | (apply vL; (case h => with_reducible assumption))); (case hk => exact kpA); (case he => omega); (case' g => intro hr_ hc_)) | (apply drawS_auto mixed tt_ok; (· kernel_rfl)) | apply zZ | apply yA | apply yB | ((first | apply zA | apply zC | apply zE | apply zG); (· with_reducible assumption)) | ((first | apply zB | apply zD | apply zF | apply zH); (· with_reducible assumption)) | apply zM | apply zN | apply zO | apply zP | apply zQ | apply zR | apply zS | apply zT | apply zU | (apply zV; (· omega)) | (apply zW; (· omega)) | (apply zX; (· (first | omega | (dsimp only; omega)))) | (apply zY; (try (apply zY; apply zX; (· omega))); apply zX; (· omega); apply zX; (· (first | omega | (dsimp only; omega)))) | ((first | apply yJ | apply yK | apply yL | apply yM | apply yN | apply yO); (· exact hgA); (· exact hsA)) | (apply yNP; (· exact hgA); (· exact hsA)) | ((first | apply zA | apply zC | apply zE | apply zG); (· omega)) | ((first | apply zB | apply zD | apply zF | apply zH); (· omega)) | ((first | apply zI | apply zK); (· with_reducible assumption)) | ((first | apply zJ | apply zL); (· with_reducible assumption)) | fail)
      conv => whnf
      exact hbad _ _ _ _ (AHeap.le.trans leA hle2) (by omega)
theorem join_c {a : Option Addr} {c : Nat} {l : List (List (List Int))} {H : AHeap} {K : CK} (hl30 : l.length ≤ 30) (hl : Bls H a l)
    (h : ∀ H' p, H.le H' → Mat H' p (joinV l) → K (.returned (.tuple #[.slice p (joinV l).length (joinV l).length, iv (joinE l)])) H') : callS P (fnV 35) [.slice a l.length c] H K := by
  refine callS_post ?_
  by_cases hE0 : joinE l = 0
  · obtain ⟨hok, h0, hT⟩ := joinE_zero hE0
    have hV : joinV l = jM l l.length := by unfold joinV; rw [if_pos hE0]
    have hC := (cut_rows (hok l[0] (List.getElem_mem h0)).1).1
    have hd := headD_at h0
    rw [hE0, hV, jM_len] at h
    refine callS_walk tt_ok Try.func35 rfl (by kernel_rfl) ?_
    conv => whnf
    repeat' ((conv => whnf); first | refine joined_c hl30 hl (fun H1 p1 n1 c1 hle1 hne1 => absurd hE0 hne1) (fun H1 o vs hle1 hE hor => ?_) | apply yA | apply yB | ((first | apply zA | apply zC | apply zE | apply zG); (· with_reducible assumption)) | ((first | apply zB | apply zD | apply zF | apply zH); (· with_reducible assumption)) | apply zM | apply zN | apply zO | apply zP | apply zQ | apply zR | apply zS | apply zT | apply zU | (apply zV; (· omega)) | (apply zW; (· omega)) | (apply zX; (· (first | omega | (dsimp only; omega)))) | (apply zY; (try (apply zY; apply zX; (· omega))); apply zX; (· omega); apply zX; (· (first | omega | (dsimp only; omega)))) | ((first | apply zA | apply zC | apply zE | apply zG); (· omega)) | ((first | apply zB | apply zD | apply zF | apply zH); (· omega)) | ((first | apply zI | apply zK); (· with_reducible assumption)) | ((first | apply zJ | apply zL); (· with_reducible assumption)) | fail)
    conv => whnf
    refine ⟨_, HW.fz _ H.size, h _ _ (AHeap.le.fz hle1 (Nat.le_refl _)) (hor.fz (Nat.le_refl _) (by rw [jM_len, hd]; unfold maxN; omega) fun r hr => ?_)⟩
    obtain ⟨h1, h2⟩ := jM_rows hok (Nat.le_refl _) r hr
    exact ⟨by rw [h1]; unfold maxN; omega, fun x hx => by have := h2 x hx; unfold inR; omega⟩
  · have hV : joinV l = [] := by unfold joinV; rw [if_neg hE0]
    rw [hV] at h
    refine callS_walk tt_ok Try.func35 rfl (by kernel_rfl) ?_
    conv => whnf
    repeat' ((conv => whnf); first | refine joined_c hl30 hl (fun H1 p1 n1 c1 hle1 hne1 => ?_) (fun H1 o vs hle1 hE hor => absurd hE hE0) | apply yA | apply yB | ((first | apply zA | apply zC | apply zE | apply zG); (· with_reducible assumption)) | ((first | apply zB | apply zD | apply zF | apply zH); (· with_reducible assumption)) | apply zM | apply zN | apply zO | apply zP | apply zQ | apply zR | apply zS | apply zT | apply zU | (apply zV; (· omega)) | (apply zW; (· omega)) | (apply zX; (· (first | omega | (dsimp only; omega)))) | (apply zY; (try (apply zY; apply zX; (· omega))); apply zX; (· omega); apply zX; (· (first | omega | (dsimp only; omega)))) | ((first | apply zA | apply zC | apply zE | apply zG); (· omega)) | ((first | apply zB | apply zD | apply zF | apply zH); (· omega)) | ((first | apply zI | apply zK); (· with_reducible assumption)) | ((first | apply zJ | apply zL); (· with_reducible assumption)) | fail)
    conv => whnf
    exact ⟨_, HW.refl _, h _ none hle1 .nil⟩
theorem OMat.kpPut {H H' : AHeap} {base o : Nat} {rs : List Nat} {f : Nat → Nat → Int} {n L : Nat} (h : OMat H base o rs (matF f n L) []) (k : OKeep H H' base rs) : Kp H H' :=
  ⟨Nat.le_of_eq k.size.symm, fun i c sz _ hg => (k.get i (fun hm => by
    obtain ⟨j, hj, rfl⟩ := List.mem_iff_getElem.1 hm
    have hj2 : j < (matF f n L).length := by rw [← h.len]; exact hj
    have := h.inner j hj hj2
    rw [this] at hg
    simp at hg)).trans hg⟩
end Go.Abs
