/- Contract of Behind and of the reference's Join. -/
import Derived.Test.YthjmijjppaebgaaCC04
set_option linter.all false
set_option maxHeartbeats 1000000
set_option maxRecDepth 20000
namespace Go.Abs
open Go Go.Proofs

theorem app2_cells {A B : List Value} {n : Nat} (h : A.length = n) : List.take ((0 + n) * 1) (List.drop 0 (zeroRow 0 [Value.int .i64 0] ++ A)) ++ B = A ++ B := by
  have h0 : zeroRow 0 [Value.int .i64 0] = [] := rfl
  rw [h0, List.nil_append, List.drop_zero, List.take_of_length_le (by omega)]
def behM (m m2 : List (List Int)) : List (List Int) := List.zipWith (· ++ ·) m m2
theorem behM_len {m m2 : List (List Int)} (h : m2.length = m.length) : (behM m m2).length = m.length := by simp [behM, h]
theorem behM_get {m m2 : List (List Int)} {k : Nat} (h1 : k < m.length) (h2 : k < m2.length) (h3 : k < (behM m m2).length) : (behM m m2)[k] = m[k] ++ m2[k] := by simp [behM]
theorem behindO_c {a a2 : Option Addr} {c c2 n2 B : Nat} {m m2 : List (List Int)} {H : AHeap} {K : CK} (hx : Mat H a m) (hy : Mat H a2 m2) (hl : m2.length = m.length) (hn2 : n2 = m2.length) (hn : 1 ≤ m.length ∧ m.length ≤ 1000000) (hB : ∀ r ∈ m, r.length ≤ 1000000) (hB2 : ∀ r ∈ m2, r.length ≤ 1000000)
    (h : ∀ H' o rs, H.le H' → OMat H' H.size o rs (behM m m2) [] → K (.returned (.slice (some ⟨o, 0, none⟩) m.length m.length)) H') : callS P (fnV 74) [.slice a m.length c, .slice a2 n2 c2] H K := by
  subst hn2
  obtain ⟨i0, off, rfl⟩ := hx.at (k := 0) (by omega)
  obtain ⟨i1, off1, rfl⟩ := hy.at (k := 0) (by omega)
  have hql := behM_len hl
  obtain ⟨q, hq⟩ : ∃ q, q = behM m m2 := ⟨_, rfl⟩
  rw [← hq] at hql h
  have hqg : ∀ k (h1 : k < m.length), q[k]'(by omega) = m[k] ++ m2[k]'(by omega) := by
    subst hq
    intro k h1
    exact behM_get h1 _ _
  refine callS_walk tt_ok Try.func74 rfl (by kernel_rfl) ?_
  conv => whnf
  repeat' ((conv => whnf); first | ((first | (apply vB; (case h => with_reducible assumption)) | (apply vA; (case h => with_reducible assumption)) | (apply vC; (case h => with_reducible assumption))); (case hk => exact kpA); (case he => omega)) | ((first | (apply vI; (case h => with_reducible assumption)) | (apply vG; (case h => with_reducible assumption)) | (apply vK; (case h => with_reducible assumption))); (case hk => exact kpA); (case he => omega); (case hp => omega); (case' g => intro hr_ hc_)) | ((first | (apply vJ; (case h => with_reducible assumption)) | (apply vH; (case h => with_reducible assumption)) | (apply vL; (case h => with_reducible assumption))); (case hk => exact kpA); (case he => omega); (case' g => intro hr_ hc_)) | (apply drawS_auto mixed tt_ok; (· kernel_rfl)) | apply zZ | apply yA | apply yB | ((first | apply zA | apply zC | apply zE | apply zG); (· with_reducible assumption)) | ((first | apply zB | apply zD | apply zF | apply zH); (· with_reducible assumption)) | apply zM | apply zN | apply zO | apply zP | apply zQ | apply zR | apply zS | apply zT | apply zU | (apply zV; (· omega)) | (apply zW; (· omega)) | (apply zX; (· (first | omega | (dsimp only; omega)))) | (apply zY; (try (apply zY; apply zX; (· omega))); apply zX; (· omega); apply zX; (· (first | omega | (dsimp only; omega)))) | ((first | apply yJ | apply yK | apply yL | apply yM | apply yN | apply yO); (· exact hgA); (· exact hsA)) | (apply yNP; (· exact hgA); (· exact hsA)) | ((first | apply zA | apply zC | apply zE | apply zG); (· omega)) | ((first | apply zB | apply zD | apply zF | apply zH); (· omega)) | ((first | apply zI | apply zK); (· with_reducible assumption)) | ((first | apply zJ | apply zL); (· with_reducible assumption)) | fail)
  conv => whnf
  refine loopS_mask tt_ok (fun (k : Nat × AHeap × Value) => [.p (.slice (some ⟨i0, off, none⟩) m.length c), .p (.slice (some ⟨i1, off1, none⟩) m2.length c2), .w, .w, .w, .p (k.2.2), .p (iv k.1), .w, .w, .w, .w, .w, .w, .w, .w, .w, .w, .w, .w, .w, .w, .w, .w, .w, .w, .w, .w, .w]) (fun (k : Nat × AHeap × Value) => k.2.1) (fun (k : Nat × AHeap × Value) => k.1 ≤ m.length ∧ H.le k.2.1 ∧ OMatV k.2.1 H.size k.2.2 (q.take k.1)) (fun (k : Nat × AHeap × Value) => m.length - k.1) (⟨0, H, .slice none 0 0⟩) (⟨by omega, AHeap.le.refl H, .inl ⟨rfl, rfl⟩⟩) ?_ (fun k hk => ?_)
  · conv => whnf
    refine weakH_of (HW.refl _) ?_
    repeat' (first | exact WT.nil | refine WT.same ?_ | refine WT.drop ?_ | refine WT.int (by omega) ?_ | refine WT.eq (by assumption) ?_ | refine WT.bl (by first | assumption | (symm; assumption)) ?_ | refine WT.vv (by assumption) ?_)
  obtain ⟨k, H1, v⟩ := k
  obtain ⟨hk, hle, hv⟩ := hk
  dsimp only at hk hle hv ⊢
  have hsz := hle.size
  have hkp := hle.kp
  by_cases hlt : k < m.length
  · have hts := take_succ_of (xs := q) (k := k) (by omega)
    have hqk := hqg k hlt
    have htl : (q.take k).length = k := by rw [List.length_take]; omega
    have hl1 := hB m[k] (List.getElem_mem _)
    have hlt2 : k < m2.length := by omega
    have hl2 := hB2 m2[k] (List.getElem_mem _)
    have hqkl : (q[k]'(by omega)).length = m[k].length + m2[k].length := by rw [hqk, List.length_append]
    have hqm : (q[k]'(by omega)).map (Value.int .i64) = m[k].map (Value.int .i64) ++ m2[k].map (Value.int .i64) := by rw [hqk, List.map_append]
    rcases hv with ⟨rfl, hk0⟩ | ⟨o, rs, rfl, hm⟩
    · have hk0 : k = 0 := by
        have := congrArg List.length hk0
        simpa [htl] using this
      subst hk0
      repeat' ((conv => whnf); first | (refine srcK_row (by assumption) (by assumption) kpA ?_) | ((first | (apply vB; (case h => with_reducible assumption)) | (apply vA; (case h => with_reducible assumption)) | (apply vC; (case h => with_reducible assumption))); (case hk => exact kpA); (case he => omega)) | ((first | (apply vI; (case h => with_reducible assumption)) | (apply vG; (case h => with_reducible assumption)) | (apply vK; (case h => with_reducible assumption))); (case hk => exact kpA); (case he => omega); (case hp => omega); (case' g => intro hr_ hc_)) | ((first | (apply vJ; (case h => with_reducible assumption)) | (apply vH; (case h => with_reducible assumption)) | (apply vL; (case h => with_reducible assumption))); (case hk => exact kpA); (case he => omega); (case' g => intro hr_ hc_)) | (apply drawS_auto mixed tt_ok; (· kernel_rfl)) | apply zZ | apply yA | apply yB | ((first | apply zA | apply zC | apply zE | apply zG); (· with_reducible assumption)) | ((first | apply zB | apply zD | apply zF | apply zH); (· with_reducible assumption)) | apply zM | apply zN | apply zO | apply zP | apply zQ | apply zR | apply zS | apply zT | apply zU | (apply zV; (· omega)) | (apply zW; (· omega)) | (apply zX; (· (first | omega | (dsimp only; omega)))) | (apply zY; (try (apply zY; apply zX; (· omega))); apply zX; (· omega); apply zX; (· (first | omega | (dsimp only; omega)))) | ((first | apply yJ | apply yK | apply yL | apply yM | apply yN | apply yO); (· exact hgA); (· exact hsA)) | (apply yNP; (· exact hgA); (· exact hsA)) | ((first | apply zA | apply zC | apply zE | apply zG); (· omega)) | ((first | apply zB | apply zD | apply zF | apply zH); (· omega)) | ((first | apply zI | apply zK); (· with_reducible assumption)) | ((first | apply zJ | apply zL); (· with_reducible assumption)) | fail)
      conv => whnf
      have e0 : 0 + m[0].length + m2[0].length = (q[0]'(by omega)).length := by omega
      rw [e0]
      apply Exists.intro (1, _, _)
      refine ⟨?inv, ?mu, ?wk⟩
      case wk =>
        conv => whnf
        refine weakH_of (HW.refl _) ?_
        repeat' (first | exact WT.nil | refine WT.same ?_ | refine WT.drop ?_ | refine WT.int (by omega) ?_ | refine WT.eq (by assumption) ?_ | refine WT.bl (by first | assumption | (symm; assumption)) ?_ | refine WT.vv (by assumption) ?_)
      case mu => first | omega | (dsimp only; omega)
      case inv => exact ⟨by omega, leA, .inr ⟨_, _, by rw [hts]; rfl, by rw [hts]; exact OMat.one (x := q[0]'(by omega)) (r := H1.size + 2) hoA hoA hoA hgA (by rw [hqm]; exact Eq.trans hgA (congrArg (fun z => some (AObj.cells z true 1)) (app2_cells (n := m[0].length) (by rw [List.length_map]))))⟩⟩
    · have ho := hm.outer
      have hlt1 := hm.lt.1
      have hlo := hm.lo.1
      rw [List.append_nil] at ho
      have hzl : (zipS rs (q.take k)).length = k := by rw [zipS_len hm.len, htl]
      rw [htl]
      repeat' ((conv => whnf); first | (refine srcK_row (by assumption) (by assumption) kpA ?_) | ((first | (apply vB; (case h => with_reducible assumption)) | (apply vA; (case h => with_reducible assumption)) | (apply vC; (case h => with_reducible assumption))); (case hk => exact kpA); (case he => omega)) | ((first | (apply vI; (case h => with_reducible assumption)) | (apply vG; (case h => with_reducible assumption)) | (apply vK; (case h => with_reducible assumption))); (case hk => exact kpA); (case he => omega); (case hp => omega); (case' g => intro hr_ hc_)) | ((first | (apply vJ; (case h => with_reducible assumption)) | (apply vH; (case h => with_reducible assumption)) | (apply vL; (case h => with_reducible assumption))); (case hk => exact kpA); (case he => omega); (case' g => intro hr_ hc_)) | (apply drawS_auto mixed tt_ok; (· kernel_rfl)) | apply zZ | apply yA | apply yB | ((first | apply zA | apply zC | apply zE | apply zG); (· with_reducible assumption)) | ((first | apply zB | apply zD | apply zF | apply zH); (· with_reducible assumption)) | apply zM | apply zN | apply zO | apply zP | apply zQ | apply zR | apply zS | apply zT | apply zU | (apply zV; (· omega)) | (apply zW; (· omega)) | (apply zX; (· (first | omega | (dsimp only; omega)))) | (apply zY; (try (apply zY; apply zX; (· omega))); apply zX; (· omega); apply zX; (· (first | omega | (dsimp only; omega)))) | ((first | apply yJ | apply yK | apply yL | apply yM | apply yN | apply yO); (· exact hgA); (· exact hsA)) | (apply yNP; (· exact hgA); (· exact hsA)) | ((first | apply zA | apply zC | apply zE | apply zG); (· omega)) | ((first | apply zB | apply zD | apply zF | apply zH); (· omega)) | ((first | apply zI | apply zK); (· with_reducible assumption)) | ((first | apply zJ | apply zL); (· with_reducible assumption)) | fail)
      conv => whnf
      have e0 : 0 + m[k].length + m2[k].length = (q[k]'(by omega)).length := by omega
      rw [e0]
      apply Exists.intro (k + 1, _, _)
      refine ⟨?inv, ?mu, ?wk⟩
      case wk =>
        conv => whnf
        refine weakH_of (HW.refl _) ?_
        repeat' (first | exact WT.nil | refine WT.same ?_ | refine WT.drop ?_ | refine WT.int (by omega) ?_ | refine WT.eq (by assumption) ?_ | refine WT.bl (by first | assumption | (symm; assumption)) ?_ | refine WT.vv (by assumption) ?_)
      case mu => first | omega | (dsimp only; omega)
      case inv => exact ⟨by omega, leA, .inr ⟨_, _, by rw [hts, List.length_append, htl]; rfl, by rw [hts]; exact hm.snoc (x := q[k]'(by omega)) (r := H1.size + 2) hsz hoA hoA hoA hgA (by rw [hqm]; exact Eq.trans hgA (congrArg (fun z => some (AObj.cells z true 1)) (app2_cells (n := m[k].length) (by rw [List.length_map])))) (fun i hi hne => hgA)⟩⟩
  · have hkn : k = m.length := by omega
    rw [hkn, ← hql, List.take_length] at hv
    rcases hv with ⟨rfl, hk0⟩ | ⟨o, rs, rfl, hm⟩
    · have : m.length = 0 := by rw [← hql, hk0]; rfl
      omega
    · rw [hql]
      repeat' ((conv => whnf); first | ((first | (apply vB; (case h => with_reducible assumption)) | (apply vA; (case h => with_reducible assumption)) | (apply vC; (case h => with_reducible assumption))); (case hk => exact kpA); (case he => omega)) | ((first | (apply vI; (case h => with_reducible assumption)) | (apply vG; (case h => with_reducible assumption)) | (apply vK; (case h => with_reducible assumption))); (case hk => exact kpA); (case he => omega); (case hp => omega); (case' g => intro hr_ hc_)) | ((first | (apply vJ; (case h => with_reducible assumption)) | (apply vH; (case h => with_reducible assumption)) | (apply vL; (case h => with_reducible assumption))); (case hk => exact kpA); (case he => omega); (case' g => intro hr_ hc_)) | (apply drawS_auto mixed tt_ok; (· kernel_rfl)) | apply zZ | apply yA | apply yB | ((first | apply zA | apply zC | apply zE | apply zG); (· with_reducible assumption)) | ((first | apply zB | apply zD | apply zF | apply zH); (· with_reducible assumption)) | apply zM | apply zN | apply zO | apply zP | apply zQ | apply zR | apply zS | apply zT | apply zU | (apply zV; (· omega)) | (apply zW; (· omega)) | (apply zX; (· (first | omega | (dsimp only; omega)))) | (apply zY; (try (apply zY; apply zX; (· omega))); apply zX; (· omega); apply zX; (· (first | omega | (dsimp only; omega)))) | ((first | apply yJ | apply yK | apply yL | apply yM | apply yN | apply yO); (· exact hgA); (· exact hsA)) | (apply yNP; (· exact hgA); (· exact hsA)) | ((first | apply zA | apply zC | apply zE | apply zG); (· omega)) | ((first | apply zB | apply zD | apply zF | apply zH); (· omega)) | ((first | apply zI | apply zK); (· with_reducible assumption)) | ((first | apply zJ | apply zL); (· with_reducible assumption)) | fail)
      conv => whnf
      exact h _ _ _ hle hm
end Go.Abs
