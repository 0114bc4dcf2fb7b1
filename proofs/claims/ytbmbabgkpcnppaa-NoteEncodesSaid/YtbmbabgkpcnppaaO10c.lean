/- Lists of events that are read: asked, Right, Ordered, sorted. No conditions beyond those stated. -/
import Derived.Test.YtbmbabgkpcnppaaN10c
set_option linter.all false
set_option maxHeartbeats 4000000
set_option maxRecDepth 20000
namespace Go.Abs
open Go Go.Proofs

abbrev evV (x : FE) : Value := .agg ⟨evL x.1 x.2⟩
structure NVb (H : AHeap) (i off : Nat) (es : List FE) : Prop where
  g : ∃ c own sz, H.get i = some (.cells c own sz) ∧ ∀ k (h : k < es.length), (c.drop (off + k * 6)).take 6 = evL es[k].1 es[k].2
  lt : i < H.size
def NS (H : AHeap) (a : Option Addr) (es : List FE) : Prop := (es = []) ∨ ∃ i off, a = some ⟨i, off, none⟩ ∧ NVb H i off es
theorem NVb.le {H H' : AHeap} {i off : Nat} {es : List FE} (h : NVb H i off es) (hle : H.le H') : NVb H' i off es := by
  obtain ⟨⟨c, own, sz, h1, h2⟩, h3⟩ := h
  exact ⟨⟨c, own, sz, (hle.get _ h3).trans h1, h2⟩, Nat.lt_of_lt_of_le h3 hle.size⟩
theorem NS.le {H H' : AHeap} {a : Option Addr} {es : List FE} (h : NS H a es) (hle : H.le H') : NS H' a es := h.imp id fun ⟨i, off, h1, h2⟩ => ⟨i, off, h1, h2.le hle⟩
theorem NS.at {H : AHeap} {a : Option Addr} {es : List FE} (h : NS H a es) {k : Nat} (hk : k < es.length) : ∃ i off, a = some ⟨i, off, none⟩ ∧ NVb H i off es := by
  rcases h with rfl | h
  · exact absurd hk (by simp)
  · exact h
theorem NVb.ld {H : AHeap} {i off n k : Nat} {es : List FE} {K : List Value → Prop} (h : NVb H i off es) (hk : k < es.length) (ho : n = off + k * 6) (hK : K (evL es[k].1 es[k].2)) : loadsK H i n 6 K := by
  subst ho
  obtain ⟨⟨c, own, sz, h1, h2⟩, h3⟩ := h
  have e := h2 k hk
  have hl : off + k * 6 + 6 ≤ c.length := by
    have := congrArg List.length e
    simp [evL] at this
    omega
  exact loadsK_of h1 hl (by rw [e]; exact hK)
theorem NVb.fld {H : AHeap} {i off n k j : Nat} {es : List FE} {v : Value} {K : Value → Prop} (h : NVb H i off es) (hk : k < es.length) (hv : (evL es[k].1 es[k].2)[j]? = some v) (ho : n = off + k * 6 + j) (hK : K v) : loadK H i n K := by
  subst ho
  obtain ⟨⟨c, own, sz, h1, h2⟩, h3⟩ := h
  have e := h2 k hk
  have hj : j < 6 := by have := (List.getElem?_eq_some_iff.1 hv).1; simpa [evL] using this
  refine loadK_get h1 ?_ hK
  rw [← hv, ← e, List.getElem?_take_of_lt hj, List.getElem?_drop]
noncomputable def allB (es : List FE) : Bool := @decide (∀ x ∈ es, VN x.1 x.2) (Classical.propDecidable _)
noncomputable def ordB (es : List FE) : Bool := @decide (∀ k (h : k + 1 < es.length), es[k].1 ≤ es[k + 1].1) (Classical.propDecidable _)
noncomputable def askR (es : List FE) : Int := if es.length ≤ 2000 ∧ allB es = true then 0 else 1
theorem allB_t {es : List FE} : allB es = true ↔ ∀ x ∈ es, VN x.1 x.2 := by unfold allB; exact @decide_eq_true_iff _ (Classical.propDecidable _)
theorem ordB_t {es : List FE} : ordB es = true ↔ ∀ k (h : k + 1 < es.length), es[k].1 ≤ es[k + 1].1 := by unfold ordB; exact @decide_eq_true_iff _ (Classical.propDecidable _)
theorem all_upto {es : List FE} {k : Nat} (hk : k < es.length) (h : ∀ i (hi : i < es.length), i < k → VN es[i].1 es[i].2) (hv : VN es[k].1 es[k].2) : ∀ i (hi : i < es.length), i < k + 1 → VN es[i].1 es[i].2 := fun i hi hl =>
  (Nat.lt_succ_iff_lt_or_eq.1 hl).elim (h i hi) (fun e => by subst e; exact hv)
theorem all_of {es : List FE} {k : Nat} (hk : es.length ≤ k) (h : ∀ i (hi : i < es.length), i < k → VN es[i].1 es[i].2) : allB es = true := allB_t.2 fun x hx => by
  obtain ⟨i, hi, rfl⟩ := List.getElem_of_mem hx
  exact h i hi (by omega)
theorem all_not {es : List FE} {k : Nat} (hk : k < es.length) (h : ¬ VN es[k].1 es[k].2) : allB es = false := Bool.eq_false_iff.2 fun ht => h (allB_t.1 ht _ (List.getElem_mem hk))
section
variable {H : AHeap} {K : CK}
theorem asked1_c {x : FE} (h : ∀ H', H.le H' → K (.returned (.bool (!decide (VN x.1 x.2)))) H') : callS P (fnV 78) [evV x] H K := by
  refine callS_walk tt_ok Try.func78 rfl (by kernel_rfl) ?_
  conv => whnf
  repeat' ((conv => whnf); first | refine valid_c (fun H1 hle1 => ?_) | ((first | (apply vB; (case h => with_reducible assumption)) | (apply vA; (case h => with_reducible assumption)) | (apply vC; (case h => with_reducible assumption))); (case hk => exact kpA); (case he => omega)) | ((first | (apply vI; (case h => with_reducible assumption)) | (apply vG; (case h => with_reducible assumption)) | (apply vK; (case h => with_reducible assumption))); (case hk => exact kpA); (case he => omega); (case hp => omega); (case' g => intro hr_ hc_)) | ((first | (apply vJ; (case h => with_reducible assumption)) | (apply vH; (case h => with_reducible assumption)) | (apply vL; (case h => with_reducible assumption))); (case hk => exact kpA); (case he => omega); (case' g => intro hr_ hc_)) | apply yA | apply yB | ((first | apply zA | apply zC | apply zE | apply zG); (· with_reducible assumption)) | ((first | apply zB | apply zD | apply zF | apply zH); (· with_reducible assumption)) | apply zM | apply zN | apply zO | apply zP | apply zQ | apply zR | apply zS | apply zT | apply zU | (apply zV; (· omega)) | (apply zW; (· omega)) | (apply zX; (· (first | omega | (dsimp only; omega)))) | (apply zY; (try (apply zY; apply zX; (· omega))); apply zX; (· omega); apply zX; (· (first | omega | (dsimp only; omega)))) | ((first | apply yJ | apply yK | apply yL | apply yM | apply yN | apply yO); (· exact hgA); (· exact hsA)) | (apply yNP; (· exact hgA); (· exact hsA)) | ((first | apply zA | apply zC | apply zE | apply zG); (· omega)) | ((first | apply zB | apply zD | apply zF | apply zH); (· omega)) | ((first | apply zI | apply zK); (· with_reducible assumption)) | ((first | apply zJ | apply zL); (· with_reducible assumption)) | fail)
  conv => whnf
  exact h _ (AHeap.le.trans leA hle1)
theorem idxN_c {a : Option Addr} {es : List FE} {cap : Nat} (hn : es.length ≤ 1000000) (hv : NS H a es) (h : ∀ H' r, H.le H' → ((0 : Int) ≤ r ↔ allB es = false) → K (.returned (iv r)) H') : callS P (fnV 96) [.slice a es.length cap, fnV 78] H K := by
  refine callS_walk tt_ok Try.func96 rfl (by kernel_rfl) ?_
  conv => whnf
  repeat' ((conv => whnf); first | ((first | (apply vB; (case h => with_reducible assumption)) | (apply vA; (case h => with_reducible assumption)) | (apply vC; (case h => with_reducible assumption))); (case hk => exact kpA); (case he => omega)) | ((first | (apply vI; (case h => with_reducible assumption)) | (apply vG; (case h => with_reducible assumption)) | (apply vK; (case h => with_reducible assumption))); (case hk => exact kpA); (case he => omega); (case hp => omega); (case' g => intro hr_ hc_)) | ((first | (apply vJ; (case h => with_reducible assumption)) | (apply vH; (case h => with_reducible assumption)) | (apply vL; (case h => with_reducible assumption))); (case hk => exact kpA); (case he => omega); (case' g => intro hr_ hc_)) | apply yA | apply yB | ((first | apply zA | apply zC | apply zE | apply zG); (· with_reducible assumption)) | ((first | apply zB | apply zD | apply zF | apply zH); (· with_reducible assumption)) | apply zM | apply zN | apply zO | apply zP | apply zQ | apply zR | apply zS | apply zT | apply zU | (apply zV; (· omega)) | (apply zW; (· omega)) | (apply zX; (· (first | omega | (dsimp only; omega)))) | (apply zY; (try (apply zY; apply zX; (· omega))); apply zX; (· omega); apply zX; (· (first | omega | (dsimp only; omega)))) | ((first | apply yJ | apply yK | apply yL | apply yM | apply yN | apply yO); (· exact hgA); (· exact hsA)) | (apply yNP; (· exact hgA); (· exact hsA)) | ((first | apply zA | apply zC | apply zE | apply zG); (· omega)) | ((first | apply zB | apply zD | apply zF | apply zH); (· omega)) | ((first | apply zI | apply zK); (· with_reducible assumption)) | ((first | apply zJ | apply zL); (· with_reducible assumption)) | fail)
  conv => whnf
  refine loopS_mask tt_ok (fun (k : Nat × AHeap) => [.k, .k, .w, .w, .w, .w, .w, .k, .p (iv k.1), .w, .w, .w, .w, .w, .w, .w, .w, .w, .w]) (fun (k : Nat × AHeap) => k.2) (fun (k : Nat × AHeap) => k.1 ≤ es.length ∧ H.le k.2 ∧ ∀ i (hi : i < es.length), i < k.1 → VN es[i].1 es[i].2) (fun (k : Nat × AHeap) => es.length - k.1) (⟨0, H⟩) (⟨by omega, AHeap.le.refl _, fun i _ hi => by omega⟩) ?_ (fun k hk => ?_)
  · conv => whnf
    refine weakH_of (HW.refl _) ?_
    repeat' (first | exact WT.nil | refine WT.same ?_ | refine WT.drop ?_ | refine WT.int (by omega) ?_ | refine WT.eq (by assumption) ?_ | refine WT.bl (by first | assumption | (symm; assumption)) ?_ | refine WT.vv (by assumption) ?_)
  obtain ⟨k, HH⟩ := k
  obtain ⟨hk, hle, hl⟩ := hk
  dsimp only at hk hle hl ⊢
  by_cases hlt : k < es.length
  · obtain ⟨i, off, rfl, hb⟩ := (hv.le hle).at hlt
    by_cases hb2 : VN es[k].1 es[k].2
    · have e : (!decide (VN es[k].1 es[k].2)) = false := by rw [decide_eq_true hb2]; rfl
      repeat' ((conv => whnf); first | (refine hb.ld hlt ?_ ?_; (· exact hoA)) | refine asked1_c (x := es[k]) (fun H1 hle1 => ?_); rw [e] | ((first | (apply vB; (case h => with_reducible assumption)) | (apply vA; (case h => with_reducible assumption)) | (apply vC; (case h => with_reducible assumption))); (case hk => exact kpA); (case he => omega)) | ((first | (apply vI; (case h => with_reducible assumption)) | (apply vG; (case h => with_reducible assumption)) | (apply vK; (case h => with_reducible assumption))); (case hk => exact kpA); (case he => omega); (case hp => omega); (case' g => intro hr_ hc_)) | ((first | (apply vJ; (case h => with_reducible assumption)) | (apply vH; (case h => with_reducible assumption)) | (apply vL; (case h => with_reducible assumption))); (case hk => exact kpA); (case he => omega); (case' g => intro hr_ hc_)) | apply yA | apply yB | ((first | apply zA | apply zC | apply zE | apply zG); (· with_reducible assumption)) | ((first | apply zB | apply zD | apply zF | apply zH); (· with_reducible assumption)) | apply zM | apply zN | apply zO | apply zP | apply zQ | apply zR | apply zS | apply zT | apply zU | (apply zV; (· omega)) | (apply zW; (· omega)) | (apply zX; (· (first | omega | (dsimp only; omega)))) | (apply zY; (try (apply zY; apply zX; (· omega))); apply zX; (· omega); apply zX; (· (first | omega | (dsimp only; omega)))) | ((first | apply yJ | apply yK | apply yL | apply yM | apply yN | apply yO); (· exact hgA); (· exact hsA)) | (apply yNP; (· exact hgA); (· exact hsA)) | ((first | apply zA | apply zC | apply zE | apply zG); (· omega)) | ((first | apply zB | apply zD | apply zF | apply zH); (· omega)) | ((first | apply zI | apply zK); (· with_reducible assumption)) | ((first | apply zJ | apply zL); (· with_reducible assumption)) | fail)
      conv => whnf
      apply Exists.intro (k + 1, _)
      refine ⟨?inv, ?mu, ?wk⟩
      case wk =>
        conv => whnf
        refine weakH_of (HW.refl _) ?_
        repeat' (first | exact WT.nil | refine WT.same ?_ | refine WT.drop ?_ | refine WT.int (by omega) ?_ | refine WT.eq (by assumption) ?_ | refine WT.bl (by first | assumption | (symm; assumption)) ?_ | refine WT.vv (by assumption) ?_)
      case mu => first | omega | (dsimp only; omega)
      case inv => exact ⟨by dsimp only; omega, hle.trans hle1, all_upto hlt hl hb2⟩
    · have e : (!decide (VN es[k].1 es[k].2)) = true := by rw [decide_eq_false hb2]; rfl
      repeat' ((conv => whnf); first | (refine hb.ld hlt ?_ ?_; (· exact hoA)) | refine asked1_c (x := es[k]) (fun H1 hle1 => ?_); rw [e] | ((first | (apply vB; (case h => with_reducible assumption)) | (apply vA; (case h => with_reducible assumption)) | (apply vC; (case h => with_reducible assumption))); (case hk => exact kpA); (case he => omega)) | ((first | (apply vI; (case h => with_reducible assumption)) | (apply vG; (case h => with_reducible assumption)) | (apply vK; (case h => with_reducible assumption))); (case hk => exact kpA); (case he => omega); (case hp => omega); (case' g => intro hr_ hc_)) | ((first | (apply vJ; (case h => with_reducible assumption)) | (apply vH; (case h => with_reducible assumption)) | (apply vL; (case h => with_reducible assumption))); (case hk => exact kpA); (case he => omega); (case' g => intro hr_ hc_)) | apply yA | apply yB | ((first | apply zA | apply zC | apply zE | apply zG); (· with_reducible assumption)) | ((first | apply zB | apply zD | apply zF | apply zH); (· with_reducible assumption)) | apply zM | apply zN | apply zO | apply zP | apply zQ | apply zR | apply zS | apply zT | apply zU | (apply zV; (· omega)) | (apply zW; (· omega)) | (apply zX; (· (first | omega | (dsimp only; omega)))) | (apply zY; (try (apply zY; apply zX; (· omega))); apply zX; (· omega); apply zX; (· (first | omega | (dsimp only; omega)))) | ((first | apply yJ | apply yK | apply yL | apply yM | apply yN | apply yO); (· exact hgA); (· exact hsA)) | (apply yNP; (· exact hgA); (· exact hsA)) | ((first | apply zA | apply zC | apply zE | apply zG); (· omega)) | ((first | apply zB | apply zD | apply zF | apply zH); (· omega)) | ((first | apply zI | apply zK); (· with_reducible assumption)) | ((first | apply zJ | apply zL); (· with_reducible assumption)) | fail)
      conv => whnf
      exact h _ _ (hle.trans hle1) ⟨fun _ => all_not hlt hb2, fun _ => by omega⟩
  · skip
    repeat' ((conv => whnf); first | ((first | (apply vB; (case h => with_reducible assumption)) | (apply vA; (case h => with_reducible assumption)) | (apply vC; (case h => with_reducible assumption))); (case hk => exact kpA); (case he => omega)) | ((first | (apply vI; (case h => with_reducible assumption)) | (apply vG; (case h => with_reducible assumption)) | (apply vK; (case h => with_reducible assumption))); (case hk => exact kpA); (case he => omega); (case hp => omega); (case' g => intro hr_ hc_)) | ((first | (apply vJ; (case h => with_reducible assumption)) | (apply vH; (case h => with_reducible assumption)) | (apply vL; (case h => with_reducible assumption))); (case hk => exact kpA); (case he => omega); (case' g => intro hr_ hc_)) | apply yA | apply yB | ((first | apply zA | apply zC | apply zE | apply zG); (· with_reducible assumption)) | ((first | apply zB | apply zD | apply zF | apply zH); (· with_reducible assumption)) | apply zM | apply zN | apply zO | apply zP | apply zQ | apply zR | apply zS | apply zT | apply zU | (apply zV; (· omega)) | (apply zW; (· omega)) | (apply zX; (· (first | omega | (dsimp only; omega)))) | (apply zY; (try (apply zY; apply zX; (· omega))); apply zX; (· omega); apply zX; (· (first | omega | (dsimp only; omega)))) | ((first | apply yJ | apply yK | apply yL | apply yM | apply yN | apply yO); (· exact hgA); (· exact hsA)) | (apply yNP; (· exact hgA); (· exact hsA)) | ((first | apply zA | apply zC | apply zE | apply zG); (· omega)) | ((first | apply zB | apply zD | apply zF | apply zH); (· omega)) | ((first | apply zI | apply zK); (· with_reducible assumption)) | ((first | apply zJ | apply zL); (· with_reducible assumption)) | fail)
    conv => whnf
    exact h _ _ hle ⟨fun h0 => by omega, fun h0 => by rw [all_of (k := k) (by omega) hl] at h0; cases h0⟩
theorem hasN_c {a : Option Addr} {es : List FE} {cap : Nat} (hn : es.length ≤ 1000000) (hv : NS H a es) (h : ∀ H', H.le H' → K (.returned (.bool (!allB es))) H') : callS P (fnV 77) [.slice a es.length cap, fnV 78] H K := by
  refine callS_walk tt_ok Try.func77 rfl (by kernel_rfl) ?_
  conv => whnf
  repeat' ((conv => whnf); first | refine idxN_c hn hv (fun H1 r hle1 hr => ?_); (have e : decide (0 ≤ r) = (!allB es) := by cases ha : allB es; (· rw [ha] at hr; exact decide_eq_true (hr.2 rfl)); (· rw [ha] at hr; exact decide_eq_false (fun h0 => absurd (hr.1 h0) (by simp)))) | apply yA | apply yB | ((first | apply zA | apply zC | apply zE | apply zG); (· with_reducible assumption)) | ((first | apply zB | apply zD | apply zF | apply zH); (· with_reducible assumption)) | apply zM | apply zN | apply zO | apply zP | apply zQ | apply zR | apply zS | apply zT | apply zU | (apply zV; (· omega)) | (apply zW; (· omega)) | (apply zX; (· (first | omega | (dsimp only; omega)))) | (apply zY; (try (apply zY; apply zX; (· omega))); apply zX; (· omega); apply zX; (· (first | omega | (dsimp only; omega)))) | ((first | apply zA | apply zC | apply zE | apply zG); (· omega)) | ((first | apply zB | apply zD | apply zF | apply zH); (· omega)) | ((first | apply zI | apply zK); (· with_reducible assumption)) | ((first | apply zJ | apply zL); (· with_reducible assumption)) | fail)
  conv => whnf
  rw [e]
  exact h _ hle1
theorem asked_c {a : Option Addr} {es : List FE} {cap : Nat} (hn : es.length ≤ 1000000) (hv : NS H a es) (h : ∀ H', H.le H' → K (.returned (iv (askR es))) H') : callS P (fnV 45) [.slice a es.length cap] H K := by
  by_cases hl : es.length ≤ 2000
  · cases ha : allB es with
    | true =>
      have e : askR es = 0 := by unfold askR; rw [if_pos ⟨hl, ha⟩]
      rw [e] at h
      refine callS_walk tt_ok Try.func45 rfl (by kernel_rfl) ?_
      conv => whnf
      repeat' ((conv => whnf); first | refine hasN_c hn hv (fun H1 hle1 => ?_); rw [ha] | (apply drawS_auto mixed tt_ok; (· kernel_rfl)) | apply zZ | apply yA | apply yB | ((first | apply zA | apply zC | apply zE | apply zG); (· with_reducible assumption)) | ((first | apply zB | apply zD | apply zF | apply zH); (· with_reducible assumption)) | apply zM | apply zN | apply zO | apply zP | apply zQ | apply zR | apply zS | apply zT | apply zU | (apply zV; (· omega)) | (apply zW; (· omega)) | (apply zX; (· (first | omega | (dsimp only; omega)))) | (apply zY; (try (apply zY; apply zX; (· omega))); apply zX; (· omega); apply zX; (· (first | omega | (dsimp only; omega)))) | ((first | apply zA | apply zC | apply zE | apply zG); (· omega)) | ((first | apply zB | apply zD | apply zF | apply zH); (· omega)) | ((first | apply zI | apply zK); (· with_reducible assumption)) | ((first | apply zJ | apply zL); (· with_reducible assumption)) | fail)
      conv => whnf
      exact h _ hle1
    | false =>
      have e : askR es = 1 := by unfold askR; rw [if_neg (by rw [ha]; simp)]
      rw [e] at h
      refine callS_walk tt_ok Try.func45 rfl (by kernel_rfl) ?_
      conv => whnf
      repeat' ((conv => whnf); first | refine hasN_c hn hv (fun H1 hle1 => ?_); rw [ha] | (apply drawS_auto mixed tt_ok; (· kernel_rfl)) | apply zZ | apply yA | apply yB | ((first | apply zA | apply zC | apply zE | apply zG); (· with_reducible assumption)) | ((first | apply zB | apply zD | apply zF | apply zH); (· with_reducible assumption)) | apply zM | apply zN | apply zO | apply zP | apply zQ | apply zR | apply zS | apply zT | apply zU | (apply zV; (· omega)) | (apply zW; (· omega)) | (apply zX; (· (first | omega | (dsimp only; omega)))) | (apply zY; (try (apply zY; apply zX; (· omega))); apply zX; (· omega); apply zX; (· (first | omega | (dsimp only; omega)))) | ((first | apply zA | apply zC | apply zE | apply zG); (· omega)) | ((first | apply zB | apply zD | apply zF | apply zH); (· omega)) | ((first | apply zI | apply zK); (· with_reducible assumption)) | ((first | apply zJ | apply zL); (· with_reducible assumption)) | fail)
      conv => whnf
      exact h _ hle1
  · have e : askR es = 1 := by unfold askR; rw [if_neg (fun hh => hl hh.1)]
    rw [e] at h
    refine callS_walk tt_ok Try.func45 rfl (by kernel_rfl) ?_
    conv => whnf
    repeat' ((conv => whnf); first | (apply drawS_auto mixed tt_ok; (· kernel_rfl)) | apply zZ | apply yA | apply yB | ((first | apply zA | apply zC | apply zE | apply zG); (· with_reducible assumption)) | ((first | apply zB | apply zD | apply zF | apply zH); (· with_reducible assumption)) | apply zM | apply zN | apply zO | apply zP | apply zQ | apply zR | apply zS | apply zT | apply zU | (apply zV; (· omega)) | (apply zW; (· omega)) | (apply zX; (· (first | omega | (dsimp only; omega)))) | (apply zY; (try (apply zY; apply zX; (· omega))); apply zX; (· omega); apply zX; (· (first | omega | (dsimp only; omega)))) | ((first | apply zA | apply zC | apply zE | apply zG); (· omega)) | ((first | apply zB | apply zD | apply zF | apply zH); (· omega)) | ((first | apply zI | apply zK); (· with_reducible assumption)) | ((first | apply zJ | apply zL); (· with_reducible assumption)) | fail)
    conv => whnf
    exact h _ leA
theorem refV_c {x : FE} (hz : x.2.txt.size ≤ 9223372036854775807) (h : ∀ H', H.le H' → K (.returned (.bool (decide (VN x.1 x.2)))) H') : callS P (fnV 10) [evV x] H K := by
  by_cases h8 : x.2.kind = 8
  · exact refValid_8 h8 hz h
  · exact refValid_c h8 h
theorem right_c {a : Option Addr} {es : List FE} {cap : Nat} (hn : es.length ≤ 1000000) (hz : ∀ x ∈ es, x.2.txt.size ≤ 9223372036854775807) (hv : NS H a es) (h : ∀ H', H.le H' → K (.returned (.bool (decide (askR es = 0)))) H') : callS P (fnV 23) [.slice a es.length cap] H K := by
  refine callS_walk tt_ok Try.func23 rfl (by kernel_rfl) ?_
  conv => whnf
  repeat' ((conv => whnf); first | ((first | (apply vB; (case h => with_reducible assumption)) | (apply vA; (case h => with_reducible assumption)) | (apply vC; (case h => with_reducible assumption))); (case hk => exact kpA); (case he => omega)) | ((first | (apply vI; (case h => with_reducible assumption)) | (apply vG; (case h => with_reducible assumption)) | (apply vK; (case h => with_reducible assumption))); (case hk => exact kpA); (case he => omega); (case hp => omega); (case' g => intro hr_ hc_)) | ((first | (apply vJ; (case h => with_reducible assumption)) | (apply vH; (case h => with_reducible assumption)) | (apply vL; (case h => with_reducible assumption))); (case hk => exact kpA); (case he => omega); (case' g => intro hr_ hc_)) | apply yA | apply yB | ((first | apply zA | apply zC | apply zE | apply zG); (· with_reducible assumption)) | ((first | apply zB | apply zD | apply zF | apply zH); (· with_reducible assumption)) | apply zM | apply zN | apply zO | apply zP | apply zQ | apply zR | apply zS | apply zT | apply zU | (apply zV; (· omega)) | (apply zW; (· omega)) | (apply zX; (· (first | omega | (dsimp only; omega)))) | (apply zY; (try (apply zY; apply zX; (· omega))); apply zX; (· omega); apply zX; (· (first | omega | (dsimp only; omega)))) | ((first | apply yJ | apply yK | apply yL | apply yM | apply yN | apply yO); (· exact hgA); (· exact hsA)) | (apply yNP; (· exact hgA); (· exact hsA)) | ((first | apply zA | apply zC | apply zE | apply zG); (· omega)) | ((first | apply zB | apply zD | apply zF | apply zH); (· omega)) | ((first | apply zI | apply zK); (· with_reducible assumption)) | ((first | apply zJ | apply zL); (· with_reducible assumption)) | fail)
  conv => whnf
  refine loopS_mask tt_ok (fun (k : Nat × AHeap) => [.k, .w, .w, .p (iv k.1), .w, .w, .w, .w, .w, .w, .w, .w, .w, .w, .w, .w, .w, .w, .w]) (fun (k : Nat × AHeap) => k.2) (fun (k : Nat × AHeap) => k.1 ≤ es.length ∧ H.le k.2 ∧ ∀ i (hi : i < es.length), i < k.1 → VN es[i].1 es[i].2) (fun (k : Nat × AHeap) => es.length - k.1) (⟨0, H⟩) (⟨by omega, AHeap.le.refl _, fun i _ hi => by omega⟩) ?_ (fun k hk => ?_)
  · conv => whnf
    refine weakH_of (HW.refl _) ?_
    repeat' (first | exact WT.nil | refine WT.same ?_ | refine WT.drop ?_ | refine WT.int (by omega) ?_ | refine WT.eq (by assumption) ?_ | refine WT.bl (by first | assumption | (symm; assumption)) ?_ | refine WT.vv (by assumption) ?_)
  obtain ⟨k, HH⟩ := k
  obtain ⟨hk, hle, hl⟩ := hk
  dsimp only at hk hle hl ⊢
  by_cases hlt : k < es.length
  · obtain ⟨i, off, rfl, hb⟩ := (hv.le hle).at hlt
    have hzk := hz _ (List.getElem_mem hlt)
    by_cases hb2 : VN es[k].1 es[k].2
    · have e : decide (VN es[k].1 es[k].2) = true := decide_eq_true hb2
      repeat' ((conv => whnf); first | (refine hb.ld hlt ?_ ?_; (· exact hoA)) | refine refV_c (x := es[k]) hzk (fun H1 hle1 => ?_); rw [e] | ((first | (apply vB; (case h => with_reducible assumption)) | (apply vA; (case h => with_reducible assumption)) | (apply vC; (case h => with_reducible assumption))); (case hk => exact kpA); (case he => omega)) | ((first | (apply vI; (case h => with_reducible assumption)) | (apply vG; (case h => with_reducible assumption)) | (apply vK; (case h => with_reducible assumption))); (case hk => exact kpA); (case he => omega); (case hp => omega); (case' g => intro hr_ hc_)) | ((first | (apply vJ; (case h => with_reducible assumption)) | (apply vH; (case h => with_reducible assumption)) | (apply vL; (case h => with_reducible assumption))); (case hk => exact kpA); (case he => omega); (case' g => intro hr_ hc_)) | apply yA | apply yB | ((first | apply zA | apply zC | apply zE | apply zG); (· with_reducible assumption)) | ((first | apply zB | apply zD | apply zF | apply zH); (· with_reducible assumption)) | apply zM | apply zN | apply zO | apply zP | apply zQ | apply zR | apply zS | apply zT | apply zU | (apply zV; (· omega)) | (apply zW; (· omega)) | (apply zX; (· (first | omega | (dsimp only; omega)))) | (apply zY; (try (apply zY; apply zX; (· omega))); apply zX; (· omega); apply zX; (· (first | omega | (dsimp only; omega)))) | ((first | apply yJ | apply yK | apply yL | apply yM | apply yN | apply yO); (· exact hgA); (· exact hsA)) | (apply yNP; (· exact hgA); (· exact hsA)) | ((first | apply zA | apply zC | apply zE | apply zG); (· omega)) | ((first | apply zB | apply zD | apply zF | apply zH); (· omega)) | ((first | apply zI | apply zK); (· with_reducible assumption)) | ((first | apply zJ | apply zL); (· with_reducible assumption)) | fail)
      conv => whnf
      apply Exists.intro (k + 1, _)
      refine ⟨?inv, ?mu, ?wk⟩
      case wk =>
        conv => whnf
        refine weakH_of (HW.refl _) ?_
        repeat' (first | exact WT.nil | refine WT.same ?_ | refine WT.drop ?_ | refine WT.int (by omega) ?_ | refine WT.eq (by assumption) ?_ | refine WT.bl (by first | assumption | (symm; assumption)) ?_ | refine WT.vv (by assumption) ?_)
      case mu => first | omega | (dsimp only; omega)
      case inv => exact ⟨by dsimp only; omega, hle.trans hle1, all_upto hlt hl hb2⟩
    · have e : decide (VN es[k].1 es[k].2) = false := decide_eq_false hb2
      have e2 : decide (askR es = 0) = false := by unfold askR; rw [if_neg (by rw [all_not hlt hb2]; simp)]; rfl
      rw [e2] at h
      repeat' ((conv => whnf); first | (refine hb.ld hlt ?_ ?_; (· exact hoA)) | refine refV_c (x := es[k]) hzk (fun H1 hle1 => ?_); rw [e] | ((first | (apply vB; (case h => with_reducible assumption)) | (apply vA; (case h => with_reducible assumption)) | (apply vC; (case h => with_reducible assumption))); (case hk => exact kpA); (case he => omega)) | ((first | (apply vI; (case h => with_reducible assumption)) | (apply vG; (case h => with_reducible assumption)) | (apply vK; (case h => with_reducible assumption))); (case hk => exact kpA); (case he => omega); (case hp => omega); (case' g => intro hr_ hc_)) | ((first | (apply vJ; (case h => with_reducible assumption)) | (apply vH; (case h => with_reducible assumption)) | (apply vL; (case h => with_reducible assumption))); (case hk => exact kpA); (case he => omega); (case' g => intro hr_ hc_)) | apply yA | apply yB | ((first | apply zA | apply zC | apply zE | apply zG); (· with_reducible assumption)) | ((first | apply zB | apply zD | apply zF | apply zH); (· with_reducible assumption)) | apply zM | apply zN | apply zO | apply zP | apply zQ | apply zR | apply zS | apply zT | apply zU | (apply zV; (· omega)) | (apply zW; (· omega)) | (apply zX; (· (first | omega | (dsimp only; omega)))) | (apply zY; (try (apply zY; apply zX; (· omega))); apply zX; (· omega); apply zX; (· (first | omega | (dsimp only; omega)))) | ((first | apply yJ | apply yK | apply yL | apply yM | apply yN | apply yO); (· exact hgA); (· exact hsA)) | (apply yNP; (· exact hgA); (· exact hsA)) | ((first | apply zA | apply zC | apply zE | apply zG); (· omega)) | ((first | apply zB | apply zD | apply zF | apply zH); (· omega)) | ((first | apply zI | apply zK); (· with_reducible assumption)) | ((first | apply zJ | apply zL); (· with_reducible assumption)) | fail)
      conv => whnf
      exact h _ (hle.trans hle1)
  · have hA := all_of (k := k) (by omega) hl
    have e2 : decide ((es.length : Int) ≤ 2000) = decide (askR es = 0) := by
      rw [decide_eq_decide]
      unfold askR
      by_cases h2 : es.length ≤ 2000
      · rw [if_pos ⟨h2, hA⟩]; omega
      · rw [if_neg (fun hh => h2 hh.1)]; omega
    repeat' ((conv => whnf); first | ((first | (apply vB; (case h => with_reducible assumption)) | (apply vA; (case h => with_reducible assumption)) | (apply vC; (case h => with_reducible assumption))); (case hk => exact kpA); (case he => omega)) | ((first | (apply vI; (case h => with_reducible assumption)) | (apply vG; (case h => with_reducible assumption)) | (apply vK; (case h => with_reducible assumption))); (case hk => exact kpA); (case he => omega); (case hp => omega); (case' g => intro hr_ hc_)) | ((first | (apply vJ; (case h => with_reducible assumption)) | (apply vH; (case h => with_reducible assumption)) | (apply vL; (case h => with_reducible assumption))); (case hk => exact kpA); (case he => omega); (case' g => intro hr_ hc_)) | apply yA | apply yB | ((first | apply zA | apply zC | apply zE | apply zG); (· with_reducible assumption)) | ((first | apply zB | apply zD | apply zF | apply zH); (· with_reducible assumption)) | apply zM | apply zN | apply zO | apply zP | apply zQ | apply zR | apply zS | apply zT | apply zU | (apply zV; (· omega)) | (apply zW; (· omega)) | (apply zX; (· (first | omega | (dsimp only; omega)))) | (apply zY; (try (apply zY; apply zX; (· omega))); apply zX; (· omega); apply zX; (· (first | omega | (dsimp only; omega)))) | ((first | apply yJ | apply yK | apply yL | apply yM | apply yN | apply yO); (· exact hgA); (· exact hsA)) | (apply yNP; (· exact hgA); (· exact hsA)) | ((first | apply zA | apply zC | apply zE | apply zG); (· omega)) | ((first | apply zB | apply zD | apply zF | apply zH); (· omega)) | ((first | apply zI | apply zK); (· with_reducible assumption)) | ((first | apply zJ | apply zL); (· with_reducible assumption)) | fail)
    conv => whnf
    rw [e2]
    exact h _ hle
end
end Go.Abs
