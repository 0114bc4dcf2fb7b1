/- Pack: both. No conditions beyond those stated. -/
import Derived.Test.YtbmbabgkpcnppaaU10c
set_option linter.all false
set_option maxHeartbeats 4000000
set_option maxRecDepth 20000
namespace Go.Abs
open Go Go.Proofs

def packN : List FE → Int → List Int
  | [], _ => []
  | x :: xs, last => varL (x.1 - last).toNat ++ (byL x.2 false ++ packN xs x.1)
noncomputable def packR (es : List FE) : List Int × Int := if ordR es = 0 then (if 65536 < (packN es 0).length then ([], 3) else (packN es 0, 0)) else ([], ordR es)
theorem tm128 {n : Nat} : (n : Int).tmod 128 = ((n % 128 : Nat) : Int) := by rw [Int.tmod_eq_emod_of_nonneg (by omega)]; omega
theorem td128 {n : Nat} : (n : Int).tdiv 128 = ((n / 128 : Nat) : Int) := by rw [Int.tdiv_eq_ediv_of_nonneg (by omega)]; omega
theorem ordR_0 {es : List FE} (h : ordR es = 0) : es.length ≤ 2000 ∧ allB es = true ∧ ordB es = true ∧ askR es = 0 := by
  unfold ordR at h
  split at h
  · rename_i h0
    split at h
    · rename_i h1; exact ⟨(askR_0 h0).1, (askR_0 h0).2, h1, h0⟩
    · omega
  · omega
structure PSt where
  k : Nat
  last : Int
  H : AHeap
  v : Value
  acc : List Int
structure PInv (H : AHeap) (es : List FE) (R : List Int) (r : PSt) : Prop where
  le : r.k ≤ es.length
  hle : H.le r.H
  o : OBy r.H H.size r.v r.acc
  n : r.acc.length ≤ r.k * 208
  l : 0 ≤ r.last ∧ r.last ≤ 1000000000 ∧ ∀ h : r.k < es.length, r.last ≤ es[r.k].1
  e : r.acc ++ packN (es.drop r.k) r.last = R
theorem pk_next {es : List FE} (ho : ordB es = true) {k : Nat} (hk : k < es.length) {fr : Int} {e : Ev} (hx : es[k] = (fr, e)) : ∀ h : k + 1 < es.length, fr ≤ es[k + 1].1 := fun h => by
  have := ordB_t.1 ho k h
  rw [hx] at this
  exact this
section
variable {H : AHeap} {K : CK}
theorem variable_c {n : Nat} (hn : n ≤ 1000000000) (h : ∀ H', H.le H' → K (.returned (.string (bstr (varL n)))) H') : callS P (fnV 51) [iv n] H K := by
  have hd := dg_le 5 (n / 128) (by omega)
  generalize hR : varL n = R at h
  refine callS_walk tt_ok Try.func51 rfl (by kernel_rfl) ?_
  conv => whnf
  repeat' ((conv => whnf); first | rw [tm128] | rw [td128] | (refine intK_u8 ?_ ?_; (· omega)) | apply yA | apply yB | ((first | apply zA | apply zC | apply zE | apply zG); (· with_reducible assumption)) | ((first | apply zB | apply zD | apply zF | apply zH); (· with_reducible assumption)) | apply zM | apply zN | apply zO | apply zP | apply zQ | apply zR | apply zS | apply zT | apply zU | (apply zV; (· omega)) | (apply zW; (· omega)) | (apply zX; (· (first | omega | (dsimp only; omega)))) | (apply zY; (try (apply zY; apply zX; (· omega))); apply zX; (· omega); apply zX; (· (first | omega | (dsimp only; omega)))) | ((first | apply yJ | apply yK | apply yL | apply yM | apply yN | apply yO); (· exact hgA); (· exact hsA)) | (apply yNP; (· exact hgA); (· exact hsA)) | ((first | apply zA | apply zC | apply zE | apply zG); (· omega)) | ((first | apply zB | apply zD | apply zF | apply zH); (· omega)) | ((first | apply zI | apply zK); (· with_reducible assumption)) | ((first | apply zJ | apply zL); (· with_reducible assumption)) | ((first | apply xA | apply xC | apply xE | apply xG); (· first | assumption | rfl)) | ((first | apply xB | apply xD | apply xF | apply xH); (· first | assumption | kernel_rfl)) | fail)
  conv => whnf
  apply loopS_mask tt_ok (fun (r : Nat × AHeap × List Int) => [.p (iv r.1), .w, .w, .p (.string (bstr r.2.2)), .w, .w, .w, .w, .w, .w, .w, .w, .w, .w, .w, .w, .w, .w, .w, .w, .w, .w, .w, .w]) (fun (r : Nat × AHeap × List Int) => r.2.1) (fun (r : Nat × AHeap × List Int) => H.le r.2.1 ∧ varA r.1 r.2.2 = R ∧ r.2.2.length ≤ 20 - dg r.1 ∧ dg r.1 ≤ 10 ∧ r.1 ≤ 1000000000) (fun (r : Nat × AHeap × List Int) => r.1) (⟨n / 128, _, [((n % 128 : Nat) : Int)]⟩)
  case hst =>
    conv => whnf
    refine weakH_of (HW.refl _) ?_
    repeat' (first | exact WT.nil | refine WT.same ?_ | refine WT.drop ?_ | refine WT.int (by omega) ?_ | refine WT.eq (by assumption) ?_ | refine WT.bl (by first | assumption | (symm; assumption)) ?_ | refine WT.vv (by assumption) ?_)
  case h0 => exact ⟨by dsimp only; exact leA, hR, by dsimp only; simp; omega, by dsimp only; omega, by dsimp only; omega⟩
  intro r hr
  obtain ⟨m, HH, acc⟩ := r
  obtain ⟨hle, he, hl1, hl2, hl3⟩ := hr
  dsimp only at hle he hl1 hl2 hl3 ⊢
  have hz := hle.size
  by_cases hm : m = 0
  · subst hm
    rw [varA_0] at he
    subst he
    repeat' ((conv => whnf); first | apply yA | apply yB | ((first | apply zA | apply zC | apply zE | apply zG); (· with_reducible assumption)) | ((first | apply zB | apply zD | apply zF | apply zH); (· with_reducible assumption)) | apply zM | apply zN | apply zO | apply zP | apply zQ | apply zR | apply zS | apply zT | apply zU | (apply zV; (· omega)) | (apply zW; (· omega)) | (apply zX; (· (first | omega | (dsimp only; omega)))) | (apply zY; (try (apply zY; apply zX; (· omega))); apply zX; (· omega); apply zX; (· (first | omega | (dsimp only; omega)))) | ((first | apply yJ | apply yK | apply yL | apply yM | apply yN | apply yO); (· exact hgA); (· exact hsA)) | (apply yNP; (· exact hgA); (· exact hsA)) | ((first | apply zA | apply zC | apply zE | apply zG); (· omega)) | ((first | apply zB | apply zD | apply zF | apply zH); (· omega)) | ((first | apply zI | apply zK); (· with_reducible assumption)) | ((first | apply zJ | apply zL); (· with_reducible assumption)) | ((first | apply xA | apply xC | apply xE | apply xG); (· first | assumption | rfl)) | ((first | apply xB | apply xD | apply xF | apply xH); (· first | assumption | kernel_rfl)) | fail)
    conv => whnf
    exact h HH hle
  · have hd2 := dg_p hm
    rw [varA_p hm] at he
    have e1 := bstr_size [128 + ((m % 128 : Nat) : Int)]
    have e2 := bstr_size acc
    have e3 : ∀ z : Value, strV (.int .u8 (128 + ((m % 128 : Nat) : Int)) :: List.replicate 0 z) = bstr [128 + ((m % 128 : Nat) : Int)] := fun z => rfl
    simp only [List.length_cons, List.length_nil] at e1
    repeat' ((conv => whnf); first | rw [tm128] | rw [td128] | (refine intK_u8 ?_ ?_; (· omega)) | rw [e3] | rw [bstr_app2] | apply yA | apply yB | ((first | apply zA | apply zC | apply zE | apply zG); (· with_reducible assumption)) | ((first | apply zB | apply zD | apply zF | apply zH); (· with_reducible assumption)) | apply zM | apply zN | apply zO | apply zP | apply zQ | apply zR | apply zS | apply zT | apply zU | (apply zV; (· omega)) | (apply zW; (· omega)) | (apply zX; (· (first | omega | (dsimp only; omega)))) | (apply zY; (try (apply zY; apply zX; (· omega))); apply zX; (· omega); apply zX; (· (first | omega | (dsimp only; omega)))) | ((first | apply yJ | apply yK | apply yL | apply yM | apply yN | apply yO); (· exact hgA); (· exact hsA)) | (apply yNP; (· exact hgA); (· exact hsA)) | ((first | apply zA | apply zC | apply zE | apply zG); (· omega)) | ((first | apply zB | apply zD | apply zF | apply zH); (· omega)) | ((first | apply zI | apply zK); (· with_reducible assumption)) | ((first | apply zJ | apply zL); (· with_reducible assumption)) | ((first | apply xA | apply xC | apply xE | apply xG); (· first | assumption | rfl)) | ((first | apply xB | apply xD | apply xF | apply xH); (· first | assumption | kernel_rfl)) | fail)
    conv => whnf
    apply Exists.intro (⟨m / 128, _, [128 + ((m % 128 : Nat) : Int)] ++ acc⟩ : Nat × AHeap × List Int)
    refine ⟨?inv, ?mu, ?wk⟩
    case wk =>
      conv => whnf
      refine weakH_of (HW.refl _) ?_
      repeat' (first | exact WT.nil | refine WT.same ?_ | refine WT.drop ?_ | refine WT.int (by omega) ?_ | refine WT.eq (by assumption) ?_ | refine WT.bl (by first | assumption | (symm; assumption)) ?_ | refine WT.vv (by assumption) ?_)
    case mu => first | omega | (dsimp only; omega)
    case inv => exact ⟨by dsimp only; exact leA, he, by dsimp only; simp; omega, by dsimp only; omega, by dsimp only; omega⟩
theorem long_v {n : Int} {m : Nat} (hm : n = m) (hn : m ≤ 1000000000) (h : BK H K (varL m)) : callS P (fnV 50) [iv n] H K := by subst hm; exact long_c hn h
theorem variable_v {n : Int} {m : Nat} (hm : n = m) (hn : m ≤ 1000000000) (h : ∀ H', H.le H' → K (.returned (.string (bstr (varL m)))) H') : callS P (fnV 51) [iv n] H K := by subst hm; exact variable_c hn h
theorem pack_c {a : Option Addr} {es : List FE} {cap : Nat} (hn : es.length ≤ 1000000) (hv : NS H a es) (h : ∀ H', H.le H' → K (.returned (.tuple #[.string (bstr (packR es).1), iv (packR es).2])) H') : callS P (fnV 14) [.slice a es.length cap] H K := by
  by_cases h0 : ordR es = 0
  · obtain ⟨hl2, hA, hO, _⟩ := ordR_0 h0
    have hA2 := allB_t.1 hA
    generalize hR : packN es 0 = R
    have eR : packR es = if 65536 < R.length then ([], 3) else (R, 0) := by unfold packR; rw [if_pos h0, hR]
    rw [eR] at h
    refine callS_walk tt_ok Try.func14 rfl (by kernel_rfl) ?_
    conv => whnf
    repeat' ((conv => whnf); first | refine ordered_c hn hv (fun H1 hle1 => ?_); rw [h0]; (have hz1 := hle1.size) | ((first | (apply vB; (case h => with_reducible assumption)) | (apply vA; (case h => with_reducible assumption)) | (apply vC; (case h => with_reducible assumption))); (case hk => exact kpA); (case he => omega)) | ((first | (apply vI; (case h => with_reducible assumption)) | (apply vG; (case h => with_reducible assumption)) | (apply vK; (case h => with_reducible assumption))); (case hk => exact kpA); (case he => omega); (case hp => omega); (case' g => intro hr_ hc_)) | ((first | (apply vJ; (case h => with_reducible assumption)) | (apply vH; (case h => with_reducible assumption)) | (apply vL; (case h => with_reducible assumption))); (case hk => exact kpA); (case he => omega); (case' g => intro hr_ hc_)) | apply yA | apply yB | ((first | apply zA | apply zC | apply zE | apply zG); (· with_reducible assumption)) | ((first | apply zB | apply zD | apply zF | apply zH); (· with_reducible assumption)) | apply zM | apply zN | apply zO | apply zP | apply zQ | apply zR | apply zS | apply zT | apply zU | (apply zV; (· omega)) | (apply zW; (· omega)) | (apply zX; (· (first | omega | (dsimp only; omega)))) | (apply zY; (try (apply zY; apply zX; (· omega))); apply zX; (· omega); apply zX; (· (first | omega | (dsimp only; omega)))) | ((first | apply yJ | apply yK | apply yL | apply yM | apply yN | apply yO); (· exact hgA); (· exact hsA)) | (apply yNP; (· exact hgA); (· exact hsA)) | ((first | apply zA | apply zC | apply zE | apply zG); (· omega)) | ((first | apply zB | apply zD | apply zF | apply zH); (· omega)) | ((first | apply zI | apply zK); (· with_reducible assumption)) | ((first | apply zJ | apply zL); (· with_reducible assumption)) | ((first | apply xA | apply xC | apply xE | apply xG); (· first | assumption | rfl)) | ((first | apply xB | apply xD | apply xF | apply xH); (· first | assumption | kernel_rfl)) | fail)
    conv => whnf
    apply loopS_mask tt_ok (fun (r : PSt) => [.w, .w, .w, .w, .w, .p (r.v), .p (iv r.last), .w, .w, .w, .w, .w, .w, .w, .k, .k, .p (iv r.k), .w, .w, .w, .w, .w, .w, .w, .w, .w, .w, .w, .w, .w, .w, .w, .w, .w, .w, .w, .w, .w, .w]) (fun (r : PSt) => r.H) (fun (r : PSt) => PInv H es R r) (fun (r : PSt) => es.length - r.k) (⟨0, 0, _, .slice none 0 0, []⟩)
    case hst =>
      conv => whnf
      refine weakH_of (HW.refl _) ?_
      repeat' (first | exact WT.nil | refine WT.same ?_ | refine WT.drop ?_ | refine WT.int (by omega) ?_ | refine WT.eq (by assumption) ?_ | refine WT.bl (by first | assumption | (symm; assumption)) ?_ | refine WT.vv (by assumption) ?_)
    case h0 => exact ⟨Nat.zero_le _, by dsimp only; exact leA, .inl ⟨rfl, rfl⟩, by simp, ⟨by simp, by simp, fun h => (hA2 _ (List.getElem_mem h)).1⟩, by rw [← hR]; rfl⟩
    intro r hr
    obtain ⟨k, last, HH, v, acc⟩ := r
    obtain ⟨hk, hle, hov, hna, hla, he⟩ := hr
    dsimp only at hk hle hov hna hla he ⊢
    have hzH := hle.size
    by_cases hlt : k < es.length
    · obtain ⟨i, off, rfl, hb⟩ := (hv.le hle).at hlt
      have hvk := hA2 _ (List.getElem_mem hlt)
      have hla3 := hla.2.2 hlt
      rw [drop_k hlt] at he
      unfold packN at he
      rcases hx : es[k] with ⟨fr, e⟩
      rw [hx] at hvk he hla3
      dsimp only at hvk he hla3
      have hf1 := hvk.1
      have hf2 := hvk.2.1
      have hdm : fr - last = ((fr - last).toNat : Int) := by omega
      have hdn : (fr - last).toNat ≤ 1000000000 := by omega
      generalize hdd : (fr - last).toNat = d at he hdm hdn
      obtain ⟨hby1, hby2⟩ := byL_len hvk false
      obtain ⟨hvl1, hvl2⟩ := varL_bd hdn
      have hpn := pk_next hO hlt hx
      rcases hov with ⟨rfl, hoe⟩ | ⟨ob, rfl, go, ho1, ho2⟩
      · subst hoe
        repeat' ((conv => whnf); first | (refine hb.ld hlt ?_ ?_; (· exact hoA); rw [hx]) | refine long_v hdm hdn (fun H2 o2 off2 cap2 hle2 ho2 ho2l hby => ?_); (have hz2 : HH.size + 1 ≤ H2.size := by have := hle2.size; (try simp at this); omega); (have hle3 : H.le H2 := AHeap.le.trans leA hle2); (have g1 : H2.get HH.size = some (.cells (evL fr e) true 0) := (hle2.get HH.size hoA).trans hgA); (have ho3 : HH.size + 1 ≤ o2 := by (try simp at ho2); omega) | (refine hby.ld ?_ ?_; (· simp)) | refine condK_false (beq0 hvl1) ?_ | refine bytes_v (bare := false) rfl hvk (fun H4 o4 off4 cap4 hle4 ho4 ho4l hby4 => ?_); (have hz4 : H2.size + 1 ≤ H4.size := by have := hle4.size; (try simp at this); omega); (have hle5 : H.le H4 := AHeap.le.trans leA hle4); (have g2 : H4.get HH.size = some (.cells (evL fr e) true 0) := (hle4.get HH.size hoA).trans hgA); (have ho5 : H2.size + 1 ≤ o4 := by (try simp at ho4); omega); (have gn : H4.get H2.size = some (.cells ((varL d).map (Value.int .u8)) true 1) := (hle4.get H2.size (by simp)).trans hgA) | (refine own_by (bs := varL d) ?_ ?_ ?_; (· (repeat (first | with_reducible assumption | ((first | apply yP | apply yQ); (first | omega | (simp; done) | (simp; omega))) | ((first | refine (yR _ _ ?_).trans ?_ | refine (yS _ _ ?_).trans ?_ | refine (yT _ ?_).trans ?_ | refine (yU (by with_reducible assumption) _ ?_).trans ?_); (· (first | omega | (simp; done) | (simp; omega)))) | exact rfl | assumption))); (· simp)) | (refine lds_by (bs := varL d) ?_ ?_ ?_ ?_; (· (repeat (first | with_reducible assumption | ((first | apply yP | apply yQ); (first | omega | (simp; done) | (simp; omega))) | ((first | refine (yR _ _ ?_).trans ?_ | refine (yS _ _ ?_).trans ?_ | refine (yT _ ?_).trans ?_ | refine (yU (by with_reducible assumption) _ ?_).trans ?_); (· (first | omega | (simp; done) | (simp; omega)))) | exact rfl | assumption))); (· rfl); (· simp)) | (refine hby4.ld ?_ ?_; (· simp)) | refine condK_false (beq0 hby1) ?_ | ((first | (apply vB; (case h => with_reducible assumption)) | (apply vA; (case h => with_reducible assumption)) | (apply vC; (case h => with_reducible assumption))); (case hk => exact kpA); (case he => omega)) | ((first | (apply vI; (case h => with_reducible assumption)) | (apply vG; (case h => with_reducible assumption)) | (apply vK; (case h => with_reducible assumption))); (case hk => exact kpA); (case he => omega); (case hp => omega); (case' g => intro hr_ hc_)) | ((first | (apply vJ; (case h => with_reducible assumption)) | (apply vH; (case h => with_reducible assumption)) | (apply vL; (case h => with_reducible assumption))); (case hk => exact kpA); (case he => omega); (case' g => intro hr_ hc_)) | apply yA | apply yB | ((first | apply zA | apply zC | apply zE | apply zG); (· with_reducible assumption)) | ((first | apply zB | apply zD | apply zF | apply zH); (· with_reducible assumption)) | apply zM | apply zN | apply zO | apply zP | apply zQ | apply zR | apply zS | apply zT | apply zU | (apply zV; (· omega)) | (apply zW; (· omega)) | (apply zX; (· (first | omega | (dsimp only; omega)))) | (apply zY; (try (apply zY; apply zX; (· omega))); apply zX; (· omega); apply zX; (· (first | omega | (dsimp only; omega)))) | ((first | apply yJ | apply yK | apply yL | apply yM | apply yN | apply yO); (· exact hgA); (· exact hsA)) | (apply yNP; (· exact hgA); (· exact hsA)) | ((first | apply zA | apply zC | apply zE | apply zG); (· omega)) | ((first | apply zB | apply zD | apply zF | apply zH); (· omega)) | ((first | apply zI | apply zK); (· with_reducible assumption)) | ((first | apply zJ | apply zL); (· with_reducible assumption)) | ((first | apply xA | apply xC | apply xE | apply xG); (· first | assumption | rfl)) | ((first | apply xB | apply xD | apply xF | apply xH); (· first | assumption | kernel_rfl)) | fail)
        conv => whnf
        apply Exists.intro (⟨k + 1, fr, _, _, varL d ++ byL e false⟩ : PSt)
        refine ⟨?inv, ?mu, ?wk⟩
        case wk =>
          conv => whnf
          refine weakH_of (HW.refl _) ?_
          repeat' (first | exact WT.nil | refine WT.same ?_ | refine WT.drop ?_ | refine WT.int (by omega) ?_ | refine WT.eq (by assumption) ?_ | refine WT.bl (by first | assumption | (symm; assumption)) ?_ | refine WT.vv (by assumption) ?_)
        case mu => first | omega | (dsimp only; omega)
        case inv => exact ⟨hlt, by dsimp only; exact leA, .inr ⟨_, by rw [List.length_append], by dsimp only; rw [List.map_append]; exact hgA, hoA, hoA⟩, by dsimp only; rw [List.length_append]; omega, ⟨hf1, hf2, hpn⟩, by dsimp only; rw [List.append_assoc]; exact he⟩
      · skip
        repeat' ((conv => whnf); first | (refine hb.ld hlt ?_ ?_; (· exact hoA); rw [hx]) | refine long_v hdm hdn (fun H2 o2 off2 cap2 hle2 ho2 ho2l hby => ?_); (have hz2 : HH.size + 1 ≤ H2.size := by have := hle2.size; (try simp at this); omega); (have hle3 : H.le H2 := AHeap.le.trans leA hle2); (have g1 : H2.get HH.size = some (.cells (evL fr e) true 0) := (hle2.get HH.size hoA).trans hgA); (have go2 : H2.get ob = some (.cells (acc.map (Value.int .u8)) true 1) := (hle2.get ob hoA).trans hgA); (have ho3 : HH.size + 1 ≤ o2 := by (try simp at ho2); omega) | (refine hby.ld ?_ ?_; (· simp)) | refine condK_false (beq0 hvl1) ?_ | refine bytes_v (bare := false) rfl hvk (fun H4 o4 off4 cap4 hle4 ho4 ho4l hby4 => ?_); (have hz4 : H2.size + 1 ≤ H4.size := by have := hle4.size; (try simp at this); omega); (have hle5 : H.le H4 := AHeap.le.trans leA hle4); (have g2 : H4.get HH.size = some (.cells (evL fr e) true 0) := (hle4.get HH.size hoA).trans hgA); (have ho5 : H2.size + 1 ≤ o4 := by (try simp at ho4); omega); (have gn : H4.get H2.size = some (.cells ((acc ++ varL d).map (Value.int .u8)) true 1) := (hle4.get H2.size (by simp)).trans (by rw [List.map_append]; exact hgA)) | (refine own_by (bs := acc) ?_ ?_ ?_; (· (repeat (first | with_reducible assumption | ((first | apply yP | apply yQ); (first | omega | (simp; done) | (simp; omega))) | ((first | refine (yR _ _ ?_).trans ?_ | refine (yS _ _ ?_).trans ?_ | refine (yT _ ?_).trans ?_ | refine (yU (by with_reducible assumption) _ ?_).trans ?_); (· (first | omega | (simp; done) | (simp; omega)))) | exact rfl | assumption))); (· simp)) | (refine lds_by (bs := acc) ?_ ?_ ?_ ?_; (· (repeat (first | with_reducible assumption | ((first | apply yP | apply yQ); (first | omega | (simp; done) | (simp; omega))) | ((first | refine (yR _ _ ?_).trans ?_ | refine (yS _ _ ?_).trans ?_ | refine (yT _ ?_).trans ?_ | refine (yU (by with_reducible assumption) _ ?_).trans ?_); (· (first | omega | (simp; done) | (simp; omega)))) | exact rfl | assumption))); (· rfl); (· simp)) | (refine own_by (bs := acc ++ varL d) ?_ ?_ ?_; (· (repeat (first | with_reducible assumption | ((first | apply yP | apply yQ); (first | omega | (simp; done) | (simp; omega))) | ((first | refine (yR _ _ ?_).trans ?_ | refine (yS _ _ ?_).trans ?_ | refine (yT _ ?_).trans ?_ | refine (yU (by with_reducible assumption) _ ?_).trans ?_); (· (first | omega | (simp; done) | (simp; omega)))) | exact rfl | assumption))); (· simp)) | (refine lds_by (bs := acc ++ varL d) ?_ ?_ ?_ ?_; (· (repeat (first | with_reducible assumption | ((first | apply yP | apply yQ); (first | omega | (simp; done) | (simp; omega))) | ((first | refine (yR _ _ ?_).trans ?_ | refine (yS _ _ ?_).trans ?_ | refine (yT _ ?_).trans ?_ | refine (yU (by with_reducible assumption) _ ?_).trans ?_); (· (first | omega | (simp; done) | (simp; omega)))) | exact rfl | assumption))); (· rfl); (· simp)) | (refine hby4.ld ?_ ?_; (· simp)) | refine condK_false (beq0 hby1) ?_ | ((first | (apply vB; (case h => with_reducible assumption)) | (apply vA; (case h => with_reducible assumption)) | (apply vC; (case h => with_reducible assumption))); (case hk => exact kpA); (case he => omega)) | ((first | (apply vI; (case h => with_reducible assumption)) | (apply vG; (case h => with_reducible assumption)) | (apply vK; (case h => with_reducible assumption))); (case hk => exact kpA); (case he => omega); (case hp => omega); (case' g => intro hr_ hc_)) | ((first | (apply vJ; (case h => with_reducible assumption)) | (apply vH; (case h => with_reducible assumption)) | (apply vL; (case h => with_reducible assumption))); (case hk => exact kpA); (case he => omega); (case' g => intro hr_ hc_)) | apply yA | apply yB | ((first | apply zA | apply zC | apply zE | apply zG); (· with_reducible assumption)) | ((first | apply zB | apply zD | apply zF | apply zH); (· with_reducible assumption)) | apply zM | apply zN | apply zO | apply zP | apply zQ | apply zR | apply zS | apply zT | apply zU | (apply zV; (· omega)) | (apply zW; (· omega)) | (apply zX; (· (first | omega | (dsimp only; omega)))) | (apply zY; (try (apply zY; apply zX; (· omega))); apply zX; (· omega); apply zX; (· (first | omega | (dsimp only; omega)))) | ((first | apply yJ | apply yK | apply yL | apply yM | apply yN | apply yO); (· exact hgA); (· exact hsA)) | (apply yNP; (· exact hgA); (· exact hsA)) | ((first | apply zA | apply zC | apply zE | apply zG); (· omega)) | ((first | apply zB | apply zD | apply zF | apply zH); (· omega)) | ((first | apply zI | apply zK); (· with_reducible assumption)) | ((first | apply zJ | apply zL); (· with_reducible assumption)) | ((first | apply xA | apply xC | apply xE | apply xG); (· first | assumption | rfl)) | ((first | apply xB | apply xD | apply xF | apply xH); (· first | assumption | kernel_rfl)) | fail)
        conv => whnf
        apply Exists.intro (⟨k + 1, fr, _, _, (acc ++ varL d) ++ byL e false⟩ : PSt)
        refine ⟨?inv, ?mu, ?wk⟩
        case wk =>
          conv => whnf
          refine weakH_of (HW.refl _) ?_
          repeat' (first | exact WT.nil | refine WT.same ?_ | refine WT.drop ?_ | refine WT.int (by omega) ?_ | refine WT.eq (by assumption) ?_ | refine WT.bl (by first | assumption | (symm; assumption)) ?_ | refine WT.vv (by assumption) ?_)
        case mu => first | omega | (dsimp only; omega)
        case inv => exact ⟨hlt, by dsimp only; exact leA, .inr ⟨_, by rw [List.length_append, List.length_append], Eq.trans (b := some (.cells (((acc ++ varL d).map (Value.int .u8)) ++ (byL e false).map (Value.int .u8)) true 1)) hgA (by dsimp only; rw [← List.map_append]), hoA, hoA⟩, by dsimp only; rw [List.length_append, List.length_append]; omega, ⟨hf1, hf2, hpn⟩, by dsimp only; rw [List.append_assoc, List.append_assoc]; exact he⟩
    · have hz : k = es.length := by omega
      subst hz
      have he2 : acc = R := by rw [List.drop_length] at he; simpa [packN] using he
      subst he2
      by_cases hbig : 65536 < acc.length
      · rw [if_pos hbig] at h
        rcases hov with ⟨rfl, hoe⟩ | ⟨ob, rfl, go, ho1, ho2⟩
        · rw [hoe] at hbig; simp at hbig
        · skip
          repeat' ((conv => whnf); first | ((first | (apply vB; (case h => with_reducible assumption)) | (apply vA; (case h => with_reducible assumption)) | (apply vC; (case h => with_reducible assumption))); (case hk => exact kpA); (case he => omega)) | ((first | (apply vI; (case h => with_reducible assumption)) | (apply vG; (case h => with_reducible assumption)) | (apply vK; (case h => with_reducible assumption))); (case hk => exact kpA); (case he => omega); (case hp => omega); (case' g => intro hr_ hc_)) | ((first | (apply vJ; (case h => with_reducible assumption)) | (apply vH; (case h => with_reducible assumption)) | (apply vL; (case h => with_reducible assumption))); (case hk => exact kpA); (case he => omega); (case' g => intro hr_ hc_)) | apply yA | apply yB | ((first | apply zA | apply zC | apply zE | apply zG); (· with_reducible assumption)) | ((first | apply zB | apply zD | apply zF | apply zH); (· with_reducible assumption)) | apply zM | apply zN | apply zO | apply zP | apply zQ | apply zR | apply zS | apply zT | apply zU | (apply zV; (· omega)) | (apply zW; (· omega)) | (apply zX; (· (first | omega | (dsimp only; omega)))) | (apply zY; (try (apply zY; apply zX; (· omega))); apply zX; (· omega); apply zX; (· (first | omega | (dsimp only; omega)))) | ((first | apply yJ | apply yK | apply yL | apply yM | apply yN | apply yO); (· exact hgA); (· exact hsA)) | (apply yNP; (· exact hgA); (· exact hsA)) | ((first | apply zA | apply zC | apply zE | apply zG); (· omega)) | ((first | apply zB | apply zD | apply zF | apply zH); (· omega)) | ((first | apply zI | apply zK); (· with_reducible assumption)) | ((first | apply zJ | apply zL); (· with_reducible assumption)) | ((first | apply xA | apply xC | apply xE | apply xG); (· first | assumption | rfl)) | ((first | apply xB | apply xD | apply xF | apply xH); (· first | assumption | kernel_rfl)) | fail)
          conv => whnf
          exact h _ leA
      · rw [if_neg hbig] at h
        rcases hov with ⟨rfl, hoe⟩ | ⟨ob, rfl, go, ho1, ho2⟩
        · subst hoe
          repeat' ((conv => whnf); first | ((first | (apply vB; (case h => with_reducible assumption)) | (apply vA; (case h => with_reducible assumption)) | (apply vC; (case h => with_reducible assumption))); (case hk => exact kpA); (case he => omega)) | ((first | (apply vI; (case h => with_reducible assumption)) | (apply vG; (case h => with_reducible assumption)) | (apply vK; (case h => with_reducible assumption))); (case hk => exact kpA); (case he => omega); (case hp => omega); (case' g => intro hr_ hc_)) | ((first | (apply vJ; (case h => with_reducible assumption)) | (apply vH; (case h => with_reducible assumption)) | (apply vL; (case h => with_reducible assumption))); (case hk => exact kpA); (case he => omega); (case' g => intro hr_ hc_)) | apply yA | apply yB | ((first | apply zA | apply zC | apply zE | apply zG); (· with_reducible assumption)) | ((first | apply zB | apply zD | apply zF | apply zH); (· with_reducible assumption)) | apply zM | apply zN | apply zO | apply zP | apply zQ | apply zR | apply zS | apply zT | apply zU | (apply zV; (· omega)) | (apply zW; (· omega)) | (apply zX; (· (first | omega | (dsimp only; omega)))) | (apply zY; (try (apply zY; apply zX; (· omega))); apply zX; (· omega); apply zX; (· (first | omega | (dsimp only; omega)))) | ((first | apply yJ | apply yK | apply yL | apply yM | apply yN | apply yO); (· exact hgA); (· exact hsA)) | (apply yNP; (· exact hgA); (· exact hsA)) | ((first | apply zA | apply zC | apply zE | apply zG); (· omega)) | ((first | apply zB | apply zD | apply zF | apply zH); (· omega)) | ((first | apply zI | apply zK); (· with_reducible assumption)) | ((first | apply zJ | apply zL); (· with_reducible assumption)) | ((first | apply xA | apply xC | apply xE | apply xG); (· first | assumption | rfl)) | ((first | apply xB | apply xD | apply xF | apply xH); (· first | assumption | kernel_rfl)) | fail)
          conv => whnf
          exact h _ leA
        · skip
          repeat' ((conv => whnf); first | (refine lds_by (bs := acc) ?_ rfl ?_ ?_; (· exact hgA); (· simp)) | refine reqK_of (allU8_map acc) ?_ | ((first | (apply vB; (case h => with_reducible assumption)) | (apply vA; (case h => with_reducible assumption)) | (apply vC; (case h => with_reducible assumption))); (case hk => exact kpA); (case he => omega)) | ((first | (apply vI; (case h => with_reducible assumption)) | (apply vG; (case h => with_reducible assumption)) | (apply vK; (case h => with_reducible assumption))); (case hk => exact kpA); (case he => omega); (case hp => omega); (case' g => intro hr_ hc_)) | ((first | (apply vJ; (case h => with_reducible assumption)) | (apply vH; (case h => with_reducible assumption)) | (apply vL; (case h => with_reducible assumption))); (case hk => exact kpA); (case he => omega); (case' g => intro hr_ hc_)) | apply yA | apply yB | ((first | apply zA | apply zC | apply zE | apply zG); (· with_reducible assumption)) | ((first | apply zB | apply zD | apply zF | apply zH); (· with_reducible assumption)) | apply zM | apply zN | apply zO | apply zP | apply zQ | apply zR | apply zS | apply zT | apply zU | (apply zV; (· omega)) | (apply zW; (· omega)) | (apply zX; (· (first | omega | (dsimp only; omega)))) | (apply zY; (try (apply zY; apply zX; (· omega))); apply zX; (· omega); apply zX; (· (first | omega | (dsimp only; omega)))) | ((first | apply yJ | apply yK | apply yL | apply yM | apply yN | apply yO); (· exact hgA); (· exact hsA)) | (apply yNP; (· exact hgA); (· exact hsA)) | ((first | apply zA | apply zC | apply zE | apply zG); (· omega)) | ((first | apply zB | apply zD | apply zF | apply zH); (· omega)) | ((first | apply zI | apply zK); (· with_reducible assumption)) | ((first | apply zJ | apply zL); (· with_reducible assumption)) | ((first | apply xA | apply xC | apply xE | apply xG); (· first | assumption | rfl)) | ((first | apply xB | apply xD | apply xF | apply xH); (· first | assumption | kernel_rfl)) | fail)
          conv => whnf
          exact h _ leA
  · have eR : packR es = ([], ordR es) := by unfold packR; rw [if_neg h0]
    rw [eR] at h
    refine callS_walk tt_ok Try.func14 rfl (by kernel_rfl) ?_
    conv => whnf
    repeat' ((conv => whnf); first | refine ordered_c hn hv (fun H1 hle1 => ?_) | ((first | (apply vB; (case h => with_reducible assumption)) | (apply vA; (case h => with_reducible assumption)) | (apply vC; (case h => with_reducible assumption))); (case hk => exact kpA); (case he => omega)) | ((first | (apply vI; (case h => with_reducible assumption)) | (apply vG; (case h => with_reducible assumption)) | (apply vK; (case h => with_reducible assumption))); (case hk => exact kpA); (case he => omega); (case hp => omega); (case' g => intro hr_ hc_)) | ((first | (apply vJ; (case h => with_reducible assumption)) | (apply vH; (case h => with_reducible assumption)) | (apply vL; (case h => with_reducible assumption))); (case hk => exact kpA); (case he => omega); (case' g => intro hr_ hc_)) | apply yA | apply yB | ((first | apply zA | apply zC | apply zE | apply zG); (· with_reducible assumption)) | ((first | apply zB | apply zD | apply zF | apply zH); (· with_reducible assumption)) | apply zM | apply zN | apply zO | apply zP | apply zQ | apply zR | apply zS | apply zT | apply zU | (apply zV; (· omega)) | (apply zW; (· omega)) | (apply zX; (· (first | omega | (dsimp only; omega)))) | (apply zY; (try (apply zY; apply zX; (· omega))); apply zX; (· omega); apply zX; (· (first | omega | (dsimp only; omega)))) | ((first | apply yJ | apply yK | apply yL | apply yM | apply yN | apply yO); (· exact hgA); (· exact hsA)) | (apply yNP; (· exact hgA); (· exact hsA)) | ((first | apply zA | apply zC | apply zE | apply zG); (· omega)) | ((first | apply zB | apply zD | apply zF | apply zH); (· omega)) | ((first | apply zI | apply zK); (· with_reducible assumption)) | ((first | apply zJ | apply zL); (· with_reducible assumption)) | ((first | apply xA | apply xC | apply xE | apply xG); (· first | assumption | rfl)) | ((first | apply xB | apply xD | apply xF | apply xH); (· first | assumption | kernel_rfl)) | fail)
    conv => whnf
    exact h _ hle1
theorem refPack_c {a : Option Addr} {es : List FE} {cap : Nat} (hn : es.length ≤ 1000000) (hz : ∀ x ∈ es, x.2.txt.size ≤ 9223372036854775807) (hv : NS H a es) (h : ∀ H', H.le H' → K (.returned (.tuple #[.string (bstr (packR es).1), iv (packR es).2])) H') : callS P (fnV 15) [.slice a es.length cap] H K := by
  rcases askR_01 es with h1 | h1
  · obtain ⟨hl2, hA⟩ := askR_0 h1
    have hA2 := allB_t.1 hA
    have h1d : decide (askR es = 0) = true := decide_eq_true h1
    cases hO : ordB es with
    | true =>
      generalize hR : packN es 0 = R
      have eR : packR es = if 65536 < R.length then ([], 3) else (R, 0) := by unfold packR ordR; rw [if_pos h1, if_pos hO, if_pos rfl, hR]
      rw [eR] at h
      refine callS_walk tt_ok Try.func15 rfl (by kernel_rfl) ?_
      conv => whnf
      repeat' ((conv => whnf); first | refine right_c hn hz hv (fun H1 hle1 => ?_); rw [h1d]; (have hz1 := hle1.size) | refine refOrd_c hn (hv.le hle1) ?_; rw [hO] | ((first | (apply vB; (case h => with_reducible assumption)) | (apply vA; (case h => with_reducible assumption)) | (apply vC; (case h => with_reducible assumption))); (case hk => exact kpA); (case he => omega)) | ((first | (apply vI; (case h => with_reducible assumption)) | (apply vG; (case h => with_reducible assumption)) | (apply vK; (case h => with_reducible assumption))); (case hk => exact kpA); (case he => omega); (case hp => omega); (case' g => intro hr_ hc_)) | ((first | (apply vJ; (case h => with_reducible assumption)) | (apply vH; (case h => with_reducible assumption)) | (apply vL; (case h => with_reducible assumption))); (case hk => exact kpA); (case he => omega); (case' g => intro hr_ hc_)) | (apply drawS_auto mixed tt_ok; (· kernel_rfl)) | apply zZ | apply yA | apply yB | ((first | apply zA | apply zC | apply zE | apply zG); (· with_reducible assumption)) | ((first | apply zB | apply zD | apply zF | apply zH); (· with_reducible assumption)) | apply zM | apply zN | apply zO | apply zP | apply zQ | apply zR | apply zS | apply zT | apply zU | (apply zV; (· omega)) | (apply zW; (· omega)) | (apply zX; (· (first | omega | (dsimp only; omega)))) | (apply zY; (try (apply zY; apply zX; (· omega))); apply zX; (· omega); apply zX; (· (first | omega | (dsimp only; omega)))) | ((first | apply yJ | apply yK | apply yL | apply yM | apply yN | apply yO); (· exact hgA); (· exact hsA)) | (apply yNP; (· exact hgA); (· exact hsA)) | ((first | apply zA | apply zC | apply zE | apply zG); (· omega)) | ((first | apply zB | apply zD | apply zF | apply zH); (· omega)) | ((first | apply zI | apply zK); (· with_reducible assumption)) | ((first | apply zJ | apply zL); (· with_reducible assumption)) | ((first | apply xA | apply xC | apply xE | apply xG); (· first | assumption | rfl)) | ((first | apply xB | apply xD | apply xF | apply xH); (· first | assumption | kernel_rfl)) | fail)
      conv => whnf
      apply loopS_mask tt_ok (fun (r : FSt) => [.k, .w, .w, .w, .p (.string (bstr r.acc)), .p (iv r.last), .p (iv r.k), .w, .w, .w, .w, .w, .w, .w, .w, .w, .w, .w, .w, .w, .w, .w, .w, .w, .w, .w, .w, .w, .w, .w, .w, .w, .w, .w, .w, .w, .w, .w, .w, .w, .w, .w, .w, .w, .w, .w]) (fun (r : FSt) => r.H) (fun (r : FSt) => r.k ≤ es.length ∧ H.le r.H ∧ r.acc.length ≤ r.k * 208 ∧ (0 ≤ r.last ∧ r.last ≤ 1000000000 ∧ ∀ h : r.k < es.length, r.last ≤ es[r.k].1) ∧ r.acc ++ packN (es.drop r.k) r.last = R) (fun (r : FSt) => es.length - r.k) (⟨0, 0, _, []⟩)
      case hst =>
        conv => whnf
        refine weakH_of (HW.refl _) ?_
        repeat' (first | exact WT.nil | refine WT.same ?_ | refine WT.drop ?_ | refine WT.int (by omega) ?_ | refine WT.eq (by assumption) ?_ | refine WT.bl (by first | assumption | (symm; assumption)) ?_ | refine WT.vv (by assumption) ?_)
      case h0 => exact ⟨Nat.zero_le _, by dsimp only; exact leA, by simp, ⟨by simp, by simp, fun h => (hA2 _ (List.getElem_mem h)).1⟩, by rw [← hR]; rfl⟩
      intro r hr
      obtain ⟨k, last, HH, acc⟩ := r
      obtain ⟨hk, hle, hna, hla, he⟩ := hr
      dsimp only at hk hle hna hla he ⊢
      have hzH := hle.size
      have ebs := bstr_size acc
      by_cases hlt : k < es.length
      · obtain ⟨i, off, rfl, hb⟩ := (hv.le hle).at hlt
        have hvk := hA2 _ (List.getElem_mem hlt)
        have hla3 := hla.2.2 hlt
        rw [drop_k hlt] at he
        unfold packN at he
        rcases hx : es[k] with ⟨fr, e⟩
        rw [hx] at hvk he hla3
        dsimp only at hvk he hla3
        have hf1 := hvk.1
        have hf2 := hvk.2.1
        have hdm : fr - last = ((fr - last).toNat : Int) := by omega
        have hdn : (fr - last).toNat ≤ 1000000000 := by omega
        generalize hdd : (fr - last).toNat = d at he hdm hdn
        obtain ⟨hby1, hby2⟩ := byL_len hvk false
        obtain ⟨hvl1, hvl2⟩ := varL_bd hdn
        have hpn := pk_next hO hlt hx
        have eb1 := bstr_size (varL d)
        have eb2 := bstr_size (byL e false)
        have eb3 := bstr_size (varL d ++ byL e false)
        rw [List.length_append] at eb3
        repeat' ((conv => whnf); first | (refine hb.ld hlt ?_ ?_; (· exact hoA); rw [hx]) | (refine hb.fld (v := iv fr) hlt (j := 0) ?_ ?_ ?_; (· rw [hx]; rfl); (· exact hoA)) | refine variable_v hdm hdn (fun H2 hle2 => ?_); (have hb := hb.le hle2); (have hle3 := hle.trans hle2) | refine refBytes_c (fr := fr) (e := e) hvk (fun H4 hle4 => ?_); (have hb := hb.le hle4); (have hle5 := hle3.trans hle4) | rw [bstr_app2] | ((first | (apply vB; (case h => with_reducible assumption)) | (apply vA; (case h => with_reducible assumption)) | (apply vC; (case h => with_reducible assumption))); (case hk => exact kpA); (case he => omega)) | ((first | (apply vI; (case h => with_reducible assumption)) | (apply vG; (case h => with_reducible assumption)) | (apply vK; (case h => with_reducible assumption))); (case hk => exact kpA); (case he => omega); (case hp => omega); (case' g => intro hr_ hc_)) | ((first | (apply vJ; (case h => with_reducible assumption)) | (apply vH; (case h => with_reducible assumption)) | (apply vL; (case h => with_reducible assumption))); (case hk => exact kpA); (case he => omega); (case' g => intro hr_ hc_)) | (apply drawS_auto mixed tt_ok; (· kernel_rfl)) | apply zZ | apply yA | apply yB | ((first | apply zA | apply zC | apply zE | apply zG); (· with_reducible assumption)) | ((first | apply zB | apply zD | apply zF | apply zH); (· with_reducible assumption)) | apply zM | apply zN | apply zO | apply zP | apply zQ | apply zR | apply zS | apply zT | apply zU | (apply zV; (· omega)) | (apply zW; (· omega)) | (apply zX; (· (first | omega | (dsimp only; omega)))) | (apply zY; (try (apply zY; apply zX; (· omega))); apply zX; (· omega); apply zX; (· (first | omega | (dsimp only; omega)))) | ((first | apply yJ | apply yK | apply yL | apply yM | apply yN | apply yO); (· exact hgA); (· exact hsA)) | (apply yNP; (· exact hgA); (· exact hsA)) | ((first | apply zA | apply zC | apply zE | apply zG); (· omega)) | ((first | apply zB | apply zD | apply zF | apply zH); (· omega)) | ((first | apply zI | apply zK); (· with_reducible assumption)) | ((first | apply zJ | apply zL); (· with_reducible assumption)) | ((first | apply xA | apply xC | apply xE | apply xG); (· first | assumption | rfl)) | ((first | apply xB | apply xD | apply xF | apply xH); (· first | assumption | kernel_rfl)) | fail)
        conv => whnf
        apply Exists.intro (⟨k + 1, fr, _, acc ++ (varL d ++ byL e false)⟩ : FSt)
        refine ⟨?inv, ?mu, ?wk⟩
        case wk =>
          conv => whnf
          refine weakH_of (HW.refl _) ?_
          repeat' (first | exact WT.nil | refine WT.same ?_ | refine WT.drop ?_ | refine WT.int (by omega) ?_ | refine WT.eq (by assumption) ?_ | refine WT.bl (by first | assumption | (symm; assumption)) ?_ | refine WT.vv (by assumption) ?_)
        case mu => first | omega | (dsimp only; omega)
        case inv => exact ⟨hlt, by dsimp only; exact leA, by dsimp only; rw [List.length_append, List.length_append]; omega, ⟨hf1, hf2, hpn⟩, by dsimp only; rw [List.append_assoc, List.append_assoc]; exact he⟩
      · have hz : k = es.length := by omega
        subst hz
        have he2 : acc = R := by rw [List.drop_length] at he; simpa [packN] using he
        subst he2
        by_cases hbig : 65536 < acc.length
        · rw [if_pos hbig] at h
          repeat' ((conv => whnf); first | ((first | (apply vB; (case h => with_reducible assumption)) | (apply vA; (case h => with_reducible assumption)) | (apply vC; (case h => with_reducible assumption))); (case hk => exact kpA); (case he => omega)) | ((first | (apply vI; (case h => with_reducible assumption)) | (apply vG; (case h => with_reducible assumption)) | (apply vK; (case h => with_reducible assumption))); (case hk => exact kpA); (case he => omega); (case hp => omega); (case' g => intro hr_ hc_)) | ((first | (apply vJ; (case h => with_reducible assumption)) | (apply vH; (case h => with_reducible assumption)) | (apply vL; (case h => with_reducible assumption))); (case hk => exact kpA); (case he => omega); (case' g => intro hr_ hc_)) | (apply drawS_auto mixed tt_ok; (· kernel_rfl)) | apply zZ | apply yA | apply yB | ((first | apply zA | apply zC | apply zE | apply zG); (· with_reducible assumption)) | ((first | apply zB | apply zD | apply zF | apply zH); (· with_reducible assumption)) | apply zM | apply zN | apply zO | apply zP | apply zQ | apply zR | apply zS | apply zT | apply zU | (apply zV; (· omega)) | (apply zW; (· omega)) | (apply zX; (· (first | omega | (dsimp only; omega)))) | (apply zY; (try (apply zY; apply zX; (· omega))); apply zX; (· omega); apply zX; (· (first | omega | (dsimp only; omega)))) | ((first | apply yJ | apply yK | apply yL | apply yM | apply yN | apply yO); (· exact hgA); (· exact hsA)) | (apply yNP; (· exact hgA); (· exact hsA)) | ((first | apply zA | apply zC | apply zE | apply zG); (· omega)) | ((first | apply zB | apply zD | apply zF | apply zH); (· omega)) | ((first | apply zI | apply zK); (· with_reducible assumption)) | ((first | apply zJ | apply zL); (· with_reducible assumption)) | ((first | apply xA | apply xC | apply xE | apply xG); (· first | assumption | rfl)) | ((first | apply xB | apply xD | apply xF | apply xH); (· first | assumption | kernel_rfl)) | fail)
          conv => whnf
          exact h _ hle
        · rw [if_neg hbig] at h
          repeat' ((conv => whnf); first | ((first | (apply vB; (case h => with_reducible assumption)) | (apply vA; (case h => with_reducible assumption)) | (apply vC; (case h => with_reducible assumption))); (case hk => exact kpA); (case he => omega)) | ((first | (apply vI; (case h => with_reducible assumption)) | (apply vG; (case h => with_reducible assumption)) | (apply vK; (case h => with_reducible assumption))); (case hk => exact kpA); (case he => omega); (case hp => omega); (case' g => intro hr_ hc_)) | ((first | (apply vJ; (case h => with_reducible assumption)) | (apply vH; (case h => with_reducible assumption)) | (apply vL; (case h => with_reducible assumption))); (case hk => exact kpA); (case he => omega); (case' g => intro hr_ hc_)) | (apply drawS_auto mixed tt_ok; (· kernel_rfl)) | apply zZ | apply yA | apply yB | ((first | apply zA | apply zC | apply zE | apply zG); (· with_reducible assumption)) | ((first | apply zB | apply zD | apply zF | apply zH); (· with_reducible assumption)) | apply zM | apply zN | apply zO | apply zP | apply zQ | apply zR | apply zS | apply zT | apply zU | (apply zV; (· omega)) | (apply zW; (· omega)) | (apply zX; (· (first | omega | (dsimp only; omega)))) | (apply zY; (try (apply zY; apply zX; (· omega))); apply zX; (· omega); apply zX; (· (first | omega | (dsimp only; omega)))) | ((first | apply yJ | apply yK | apply yL | apply yM | apply yN | apply yO); (· exact hgA); (· exact hsA)) | (apply yNP; (· exact hgA); (· exact hsA)) | ((first | apply zA | apply zC | apply zE | apply zG); (· omega)) | ((first | apply zB | apply zD | apply zF | apply zH); (· omega)) | ((first | apply zI | apply zK); (· with_reducible assumption)) | ((first | apply zJ | apply zL); (· with_reducible assumption)) | ((first | apply xA | apply xC | apply xE | apply xG); (· first | assumption | rfl)) | ((first | apply xB | apply xD | apply xF | apply xH); (· first | assumption | kernel_rfl)) | fail)
          conv => whnf
          exact h _ hle
    | false =>
      have eR : packR es = ([], 9) := by unfold packR ordR; rw [if_pos h1, hO]; rfl
      rw [eR] at h
      refine callS_walk tt_ok Try.func15 rfl (by kernel_rfl) ?_
      conv => whnf
      repeat' ((conv => whnf); first | refine right_c hn hz hv (fun H1 hle1 => ?_); rw [h1d] | refine refOrd_c hn (hv.le hle1) ?_; rw [hO] | ((first | (apply vB; (case h => with_reducible assumption)) | (apply vA; (case h => with_reducible assumption)) | (apply vC; (case h => with_reducible assumption))); (case hk => exact kpA); (case he => omega)) | ((first | (apply vI; (case h => with_reducible assumption)) | (apply vG; (case h => with_reducible assumption)) | (apply vK; (case h => with_reducible assumption))); (case hk => exact kpA); (case he => omega); (case hp => omega); (case' g => intro hr_ hc_)) | ((first | (apply vJ; (case h => with_reducible assumption)) | (apply vH; (case h => with_reducible assumption)) | (apply vL; (case h => with_reducible assumption))); (case hk => exact kpA); (case he => omega); (case' g => intro hr_ hc_)) | (apply drawS_auto mixed tt_ok; (· kernel_rfl)) | apply zZ | apply yA | apply yB | ((first | apply zA | apply zC | apply zE | apply zG); (· with_reducible assumption)) | ((first | apply zB | apply zD | apply zF | apply zH); (· with_reducible assumption)) | apply zM | apply zN | apply zO | apply zP | apply zQ | apply zR | apply zS | apply zT | apply zU | (apply zV; (· omega)) | (apply zW; (· omega)) | (apply zX; (· (first | omega | (dsimp only; omega)))) | (apply zY; (try (apply zY; apply zX; (· omega))); apply zX; (· omega); apply zX; (· (first | omega | (dsimp only; omega)))) | ((first | apply yJ | apply yK | apply yL | apply yM | apply yN | apply yO); (· exact hgA); (· exact hsA)) | (apply yNP; (· exact hgA); (· exact hsA)) | ((first | apply zA | apply zC | apply zE | apply zG); (· omega)) | ((first | apply zB | apply zD | apply zF | apply zH); (· omega)) | ((first | apply zI | apply zK); (· with_reducible assumption)) | ((first | apply zJ | apply zL); (· with_reducible assumption)) | ((first | apply xA | apply xC | apply xE | apply xG); (· first | assumption | rfl)) | ((first | apply xB | apply xD | apply xF | apply xH); (· first | assumption | kernel_rfl)) | fail)
      conv => whnf
      exact h _ hle1
  · have eR : packR es = ([], 1) := by unfold packR ordR; rw [if_neg (by omega), if_neg (by omega), h1]
    rw [eR] at h
    have h1d : decide (askR es = 0) = false := decide_eq_false (by omega)
    refine callS_walk tt_ok Try.func15 rfl (by kernel_rfl) ?_
    conv => whnf
    repeat' ((conv => whnf); first | refine right_c hn hz hv (fun H1 hle1 => ?_); rw [h1d] | ((first | (apply vB; (case h => with_reducible assumption)) | (apply vA; (case h => with_reducible assumption)) | (apply vC; (case h => with_reducible assumption))); (case hk => exact kpA); (case he => omega)) | ((first | (apply vI; (case h => with_reducible assumption)) | (apply vG; (case h => with_reducible assumption)) | (apply vK; (case h => with_reducible assumption))); (case hk => exact kpA); (case he => omega); (case hp => omega); (case' g => intro hr_ hc_)) | ((first | (apply vJ; (case h => with_reducible assumption)) | (apply vH; (case h => with_reducible assumption)) | (apply vL; (case h => with_reducible assumption))); (case hk => exact kpA); (case he => omega); (case' g => intro hr_ hc_)) | (apply drawS_auto mixed tt_ok; (· kernel_rfl)) | apply zZ | apply yA | apply yB | ((first | apply zA | apply zC | apply zE | apply zG); (· with_reducible assumption)) | ((first | apply zB | apply zD | apply zF | apply zH); (· with_reducible assumption)) | apply zM | apply zN | apply zO | apply zP | apply zQ | apply zR | apply zS | apply zT | apply zU | (apply zV; (· omega)) | (apply zW; (· omega)) | (apply zX; (· (first | omega | (dsimp only; omega)))) | (apply zY; (try (apply zY; apply zX; (· omega))); apply zX; (· omega); apply zX; (· (first | omega | (dsimp only; omega)))) | ((first | apply yJ | apply yK | apply yL | apply yM | apply yN | apply yO); (· exact hgA); (· exact hsA)) | (apply yNP; (· exact hgA); (· exact hsA)) | ((first | apply zA | apply zC | apply zE | apply zG); (· omega)) | ((first | apply zB | apply zD | apply zF | apply zH); (· omega)) | ((first | apply zI | apply zK); (· with_reducible assumption)) | ((first | apply zJ | apply zL); (· with_reducible assumption)) | ((first | apply xA | apply xC | apply xE | apply xG); (· first | assumption | rfl)) | ((first | apply xB | apply xD | apply xF | apply xH); (· first | assumption | kernel_rfl)) | fail)
    conv => whnf
    exact h _ hle1
end
end Go.Abs
