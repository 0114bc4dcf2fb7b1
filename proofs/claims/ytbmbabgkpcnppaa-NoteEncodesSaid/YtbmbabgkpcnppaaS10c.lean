/- The reference's Encode. No conditions beyond those stated. -/
import Derived.Test.YtbmbabgkpcnppaaR10c
set_option linter.all false
set_option maxHeartbeats 4000000
set_option maxRecDepth 20000
namespace Go.Abs
open Go Go.Proofs

structure FSt where
  k : Nat
  last : Int
  H : AHeap
  acc : List Int
structure FInv (H : AHeap) (rn : Bool) (es : List FE) (R : List Int) (r : FSt) : Prop where
  le : r.k ≤ es.length
  hle : H.le r.H
  n : r.acc.length ≤ r.k * 202
  l : r.last = 0 ∨ 128 ≤ r.last ∧ r.last < 240
  e : r.acc ++ encN rn (es.drop r.k) r.last = R
theorem byL_ev {fr : Int} {e : Ev} (hv : VN fr e) (hk : e.kind ≤ 7) (b : Bool) : byL e b = (if b = true then [] else [stB e]) ++ dtL e := by
  unfold byL
  rw [if_neg (by omega), if_neg (by omega)]
theorem ext_one {c : Int} {L : List Int} {n : Nat} (hn : n = (c :: L).length) : (bstr (c :: L)).extract 1 n = bstr L := by
  subst hn
  unfold bstr strV
  apply ByteArray.ext
  rw [ByteArray.data_extract]
  apply Array.ext'
  rw [Array.toList_extract]
  simp only [List.extract, List.map_cons, List.length_cons, List.drop_succ_cons, List.drop_zero, Nat.add_sub_cancel]
  rw [List.take_of_length_le (by simp)]
theorem rB_0 : rB 0 = -1 := rfl
theorem rB_p {x : Int} (h : 128 ≤ x) : rB x = x := by unfold rB; rw [if_neg (by omega)]
section
variable {H : AHeap} {K : CK}
theorem refEncode_c {a : Option Addr} {es : List FE} {cap : Nat} {rn : Bool} (hn : es.length ≤ 1000000) (hz : ∀ x ∈ es, x.2.txt.size ≤ 9223372036854775807) (hv : NS H a es) (h : ∀ H', H.le H' → K (.returned (.tuple #[.string (bstr (encR rn es).1), iv (encR rn es).2])) H') : callS P (fnV 13) [.slice a es.length cap, .bool rn] H K := by
  rcases askR_01 es with h0 | h0
  · obtain ⟨hl2, hA⟩ := askR_0 h0
    have hA2 := allB_t.1 hA
    have h0d : decide (askR es = 0) = true := decide_eq_true h0
    generalize hR : encN rn es 0 = R
    have eR : encR rn es = if 65536 < R.length then ([], 3) else (R, 0) := by unfold encR; rw [if_pos h0, hR]
    rw [eR] at h
    refine callS_walk tt_ok Try.func13 rfl (by kernel_rfl) ?_
    conv => whnf
    repeat' ((conv => whnf); first | refine right_c hn hz hv (fun H1 hle1 => ?_); rw [h0d]; (have hz1 := hle1.size) | ((first | (apply vB; (case h => with_reducible assumption)) | (apply vA; (case h => with_reducible assumption)) | (apply vC; (case h => with_reducible assumption))); (case hk => exact kpA); (case he => omega)) | ((first | (apply vI; (case h => with_reducible assumption)) | (apply vG; (case h => with_reducible assumption)) | (apply vK; (case h => with_reducible assumption))); (case hk => exact kpA); (case he => omega); (case hp => omega); (case' g => intro hr_ hc_)) | ((first | (apply vJ; (case h => with_reducible assumption)) | (apply vH; (case h => with_reducible assumption)) | (apply vL; (case h => with_reducible assumption))); (case hk => exact kpA); (case he => omega); (case' g => intro hr_ hc_)) | (apply drawS_auto mixed tt_ok; (· kernel_rfl)) | apply zZ | apply yA | apply yB | ((first | apply zA | apply zC | apply zE | apply zG); (· with_reducible assumption)) | ((first | apply zB | apply zD | apply zF | apply zH); (· with_reducible assumption)) | apply zM | apply zN | apply zO | apply zP | apply zQ | apply zR | apply zS | apply zT | apply zU | (apply zV; (· omega)) | (apply zW; (· omega)) | (apply zX; (· (first | omega | (dsimp only; omega)))) | (apply zY; (try (apply zY; apply zX; (· omega))); apply zX; (· omega); apply zX; (· (first | omega | (dsimp only; omega)))) | ((first | apply yJ | apply yK | apply yL | apply yM | apply yN | apply yO); (· exact hgA); (· exact hsA)) | (apply yNP; (· exact hgA); (· exact hsA)) | ((first | apply zA | apply zC | apply zE | apply zG); (· omega)) | ((first | apply zB | apply zD | apply zF | apply zH); (· omega)) | ((first | apply zI | apply zK); (· with_reducible assumption)) | ((first | apply zJ | apply zL); (· with_reducible assumption)) | ((first | apply xA | apply xC | apply xE | apply xG); (· first | assumption | rfl)) | ((first | apply xB | apply xD | apply xF | apply xH); (· first | assumption | kernel_rfl)) | fail)
    conv => whnf
    apply loopS_mask tt_ok (fun (r : FSt) => [.k, .k, .w, .w, .w, .w, .p (.string (bstr r.acc)), .p (iv (rB r.last)), .p (iv r.k), .w, .w, .w, .w, .w, .w, .w, .w, .w, .w, .w, .w, .w, .w, .w, .w, .w, .w, .w, .w, .w, .w, .w, .w, .w, .w, .w, .w, .w, .w, .w, .w, .w, .w, .w, .w, .w, .w, .w, .w, .w, .w, .w, .w]) (fun (r : FSt) => r.H) (fun (r : FSt) => FInv H rn es R r) (fun (r : FSt) => es.length - r.k) (⟨0, 0, _, []⟩)
    case hst =>
      conv => whnf
      refine weakH_of (HW.refl _) ?_
      repeat' (first | exact WT.nil | refine WT.same ?_ | refine WT.drop ?_ | refine WT.int (by omega) ?_ | refine WT.eq (by assumption) ?_ | refine WT.bl (by first | assumption | (symm; assumption)) ?_ | refine WT.vv (by assumption) ?_)
    case h0 => exact ⟨Nat.zero_le _, by dsimp only; exact leA, by simp, .inl rfl, by rw [← hR]; rfl⟩
    intro r hr
    obtain ⟨k, last, HH, acc⟩ := r
    obtain ⟨hk, hle, hna, hla, he⟩ := hr
    dsimp only at hk hle hna hla he ⊢
    have hzH := hle.size
    have ebs := bstr_size acc
    by_cases hlt : k < es.length
    · obtain ⟨i, off, rfl, hb⟩ := (hv.le hle).at hlt
      have hvk := hA2 _ (List.getElem_mem hlt)
      rw [drop_k hlt] at he
      unfold encN at he
      rcases hx : es[k] with ⟨fr, e⟩
      rw [hx] at hvk he
      dsimp only at hvk he
      obtain ⟨hby1, hby2⟩ := byL_len hvk false
      obtain ⟨hbt1, hbt2⟩ := byL_len hvk true
      have ebf := bstr_size (byL e false)
      have ebt := bstr_size (byL e true)
      by_cases hk7 : e.kind ≤ 7
      · obtain ⟨hs1, hs2, hk1⟩ := stB_bd hvk hk7
        have hnx : nxt e last = stB e := by unfold nxt; rw [if_pos hk7]
        have hbl : byL e false = stB e :: byL e true := by rw [byL_ev hvk hk7, byL_ev hvk hk7]; rfl
        have e1 : sAt (bstr (byL e false)) ((0 : Int).toNat) = stB e := by rw [hbl]; exact bstr_at (d := stB e :: byL e true) (i := 0) (by simp) (by simp; omega)
        have ex : (bstr (byL e false)).extract ((1 : Int)).toNat (((bstr (byL e false)).size : Int)).toNat = bstr (byL e true) := by rw [hbl, Int.toNat_natCast]; exact ext_one (bstr_size _)
        have hrs : rB (stB e) = stB e := rB_p hs1
        have hrs2 : Value.int .i64 (stB e) = iv (rB (stB e)) := by rw [hrs]
        cases rn with
        | true =>
          by_cases hls : last = stB e
          · have hbb : bareB true e last = true := by unfold bareB; rw [decide_eq_true ⟨hk7, hls⟩]; rfl
            rw [hbb] at he
            have hrl : rB last = stB e := by rw [hls, hrs]
            repeat' ((conv => whnf); first | (refine hb.ld hlt ?_ ?_; (· exact hoA); rw [hx]) | (refine hb.fld (v := iv e.kind) hlt (j := 1) ?_ ?_ ?_; (· rw [hx]; rfl); (· exact hoA)) | refine refBytes_c (fr := fr) (e := e) hvk (fun H2 hle2 => ?_); (have hb := hb.le hle2); (have hle3 := hle.trans hle2) | rw [e1] | rw [hrl] | rw [ex] | rw [bstr_app2] | ((first | (apply vB; (case h => with_reducible assumption)) | (apply vA; (case h => with_reducible assumption)) | (apply vC; (case h => with_reducible assumption))); (case hk => exact kpA); (case he => omega)) | ((first | (apply vI; (case h => with_reducible assumption)) | (apply vG; (case h => with_reducible assumption)) | (apply vK; (case h => with_reducible assumption))); (case hk => exact kpA); (case he => omega); (case hp => omega); (case' g => intro hr_ hc_)) | ((first | (apply vJ; (case h => with_reducible assumption)) | (apply vH; (case h => with_reducible assumption)) | (apply vL; (case h => with_reducible assumption))); (case hk => exact kpA); (case he => omega); (case' g => intro hr_ hc_)) | (apply drawS_auto mixed tt_ok; (· kernel_rfl)) | apply zZ | apply yA | apply yB | ((first | apply zA | apply zC | apply zE | apply zG); (· with_reducible assumption)) | ((first | apply zB | apply zD | apply zF | apply zH); (· with_reducible assumption)) | apply zM | apply zN | apply zO | apply zP | apply zQ | apply zR | apply zS | apply zT | apply zU | (apply zV; (· omega)) | (apply zW; (· omega)) | (apply zX; (· (first | omega | (dsimp only; omega)))) | (apply zY; (try (apply zY; apply zX; (· omega))); apply zX; (· omega); apply zX; (· (first | omega | (dsimp only; omega)))) | ((first | apply yJ | apply yK | apply yL | apply yM | apply yN | apply yO); (· exact hgA); (· exact hsA)) | (apply yNP; (· exact hgA); (· exact hsA)) | ((first | apply zA | apply zC | apply zE | apply zG); (· omega)) | ((first | apply zB | apply zD | apply zF | apply zH); (· omega)) | ((first | apply zI | apply zK); (· with_reducible assumption)) | ((first | apply zJ | apply zL); (· with_reducible assumption)) | ((first | apply xA | apply xC | apply xE | apply xG); (· first | assumption | rfl)) | ((first | apply xB | apply xD | apply xF | apply xH); (· first | assumption | kernel_rfl)) | fail)
            conv => whnf
            apply Exists.intro (⟨k + 1, stB e, _, acc ++ byL e true⟩ : FSt)
            refine ⟨?inv, ?mu, ?wk⟩
            case wk =>
              conv => whnf
              refine weakH_of (HW.refl _) ?_
              repeat' (first | exact WT.nil | refine WT.same ?_ | refine WT.drop ?_ | refine WT.int (by omega) ?_ | refine WT.eq (by assumption) ?_ | refine WT.bl (by first | assumption | (symm; assumption)) ?_ | refine WT.vv (by assumption) ?_)
            case mu => first | omega | (dsimp only; omega)
            case inv => exact ⟨hlt, by dsimp only; exact leA, by dsimp only; rw [List.length_append]; omega, by dsimp only; omega, by dsimp only; rw [List.append_assoc]; rw [hnx] at he; exact he⟩
          · have hbb : bareB true e last = false := by unfold bareB; rw [decide_eq_false (fun hh => hls hh.2)]; rfl
            rw [hbb] at he
            have hrl : stB e ≠ rB last := by
              rcases hla with hl | hl
              · rw [hl, rB_0]; omega
              · rw [rB_p hl.1]; omega
            repeat' ((conv => whnf); first | (refine hb.ld hlt ?_ ?_; (· exact hoA); rw [hx]) | (refine hb.fld (v := iv e.kind) hlt (j := 1) ?_ ?_ ?_; (· rw [hx]; rfl); (· exact hoA)) | refine refBytes_c (fr := fr) (e := e) hvk (fun H2 hle2 => ?_); (have hb := hb.le hle2); (have hle3 := hle.trans hle2) | rw [e1] | rw [ex] | rw [bstr_app2] | ((first | (apply vB; (case h => with_reducible assumption)) | (apply vA; (case h => with_reducible assumption)) | (apply vC; (case h => with_reducible assumption))); (case hk => exact kpA); (case he => omega)) | ((first | (apply vI; (case h => with_reducible assumption)) | (apply vG; (case h => with_reducible assumption)) | (apply vK; (case h => with_reducible assumption))); (case hk => exact kpA); (case he => omega); (case hp => omega); (case' g => intro hr_ hc_)) | ((first | (apply vJ; (case h => with_reducible assumption)) | (apply vH; (case h => with_reducible assumption)) | (apply vL; (case h => with_reducible assumption))); (case hk => exact kpA); (case he => omega); (case' g => intro hr_ hc_)) | (apply drawS_auto mixed tt_ok; (· kernel_rfl)) | apply zZ | apply yA | apply yB | ((first | apply zA | apply zC | apply zE | apply zG); (· with_reducible assumption)) | ((first | apply zB | apply zD | apply zF | apply zH); (· with_reducible assumption)) | apply zM | apply zN | apply zO | apply zP | apply zQ | apply zR | apply zS | apply zT | apply zU | (apply zV; (· omega)) | (apply zW; (· omega)) | (apply zX; (· (first | omega | (dsimp only; omega)))) | (apply zY; (try (apply zY; apply zX; (· omega))); apply zX; (· omega); apply zX; (· (first | omega | (dsimp only; omega)))) | ((first | apply yJ | apply yK | apply yL | apply yM | apply yN | apply yO); (· exact hgA); (· exact hsA)) | (apply yNP; (· exact hgA); (· exact hsA)) | ((first | apply zA | apply zC | apply zE | apply zG); (· omega)) | ((first | apply zB | apply zD | apply zF | apply zH); (· omega)) | ((first | apply zI | apply zK); (· with_reducible assumption)) | ((first | apply zJ | apply zL); (· with_reducible assumption)) | ((first | apply xA | apply xC | apply xE | apply xG); (· first | assumption | rfl)) | ((first | apply xB | apply xD | apply xF | apply xH); (· first | assumption | kernel_rfl)) | fail)
            conv => whnf
            apply Exists.intro (⟨k + 1, stB e, _, acc ++ byL e false⟩ : FSt)
            refine ⟨?inv, ?mu, ?wk⟩
            case wk =>
              conv => whnf
              refine weakH_of (HW.refl _) ?_
              repeat' (first | exact WT.nil | refine WT.same ?_ | refine WT.drop ?_ | refine WT.int (by omega) ?_ | refine WT.eq (by assumption) ?_ | refine WT.bl (by first | assumption | (symm; assumption)) ?_ | refine WT.vv (by assumption) ?_)
            case mu => first | omega | (dsimp only; omega)
            case inv => exact ⟨hlt, by dsimp only; exact leA, by dsimp only; rw [List.length_append]; omega, by dsimp only; omega, by dsimp only; rw [List.append_assoc]; rw [hnx] at he; exact he⟩
        | false =>
          have hbb : bareB false e last = false := rfl
          rw [hbb] at he
          repeat' ((conv => whnf); first | (refine hb.ld hlt ?_ ?_; (· exact hoA); rw [hx]) | (refine hb.fld (v := iv e.kind) hlt (j := 1) ?_ ?_ ?_; (· rw [hx]; rfl); (· exact hoA)) | refine refBytes_c (fr := fr) (e := e) hvk (fun H2 hle2 => ?_); (have hb := hb.le hle2); (have hle3 := hle.trans hle2) | rw [e1] | rw [ex] | rw [bstr_app2] | ((first | (apply vB; (case h => with_reducible assumption)) | (apply vA; (case h => with_reducible assumption)) | (apply vC; (case h => with_reducible assumption))); (case hk => exact kpA); (case he => omega)) | ((first | (apply vI; (case h => with_reducible assumption)) | (apply vG; (case h => with_reducible assumption)) | (apply vK; (case h => with_reducible assumption))); (case hk => exact kpA); (case he => omega); (case hp => omega); (case' g => intro hr_ hc_)) | ((first | (apply vJ; (case h => with_reducible assumption)) | (apply vH; (case h => with_reducible assumption)) | (apply vL; (case h => with_reducible assumption))); (case hk => exact kpA); (case he => omega); (case' g => intro hr_ hc_)) | (apply drawS_auto mixed tt_ok; (· kernel_rfl)) | apply zZ | apply yA | apply yB | ((first | apply zA | apply zC | apply zE | apply zG); (· with_reducible assumption)) | ((first | apply zB | apply zD | apply zF | apply zH); (· with_reducible assumption)) | apply zM | apply zN | apply zO | apply zP | apply zQ | apply zR | apply zS | apply zT | apply zU | (apply zV; (· omega)) | (apply zW; (· omega)) | (apply zX; (· (first | omega | (dsimp only; omega)))) | (apply zY; (try (apply zY; apply zX; (· omega))); apply zX; (· omega); apply zX; (· (first | omega | (dsimp only; omega)))) | ((first | apply yJ | apply yK | apply yL | apply yM | apply yN | apply yO); (· exact hgA); (· exact hsA)) | (apply yNP; (· exact hgA); (· exact hsA)) | ((first | apply zA | apply zC | apply zE | apply zG); (· omega)) | ((first | apply zB | apply zD | apply zF | apply zH); (· omega)) | ((first | apply zI | apply zK); (· with_reducible assumption)) | ((first | apply zJ | apply zL); (· with_reducible assumption)) | ((first | apply xA | apply xC | apply xE | apply xG); (· first | assumption | rfl)) | ((first | apply xB | apply xD | apply xF | apply xH); (· first | assumption | kernel_rfl)) | fail)
          conv => whnf
          apply Exists.intro (⟨k + 1, stB e, _, acc ++ byL e false⟩ : FSt)
          refine ⟨?inv, ?mu, ?wk⟩
          case wk =>
            conv => whnf
            refine weakH_of (HW.refl _) ?_
            repeat' (first | exact WT.nil | refine WT.same ?_ | refine WT.drop ?_ | refine WT.int (by omega) ?_ | refine WT.eq (by assumption) ?_ | refine WT.bl (by first | assumption | (symm; assumption)) ?_ | refine WT.vv (by assumption) ?_)
          case mu => first | omega | (dsimp only; omega)
          case inv => exact ⟨hlt, by dsimp only; exact leA, by dsimp only; rw [List.length_append]; omega, by dsimp only; omega, by dsimp only; rw [List.append_assoc]; rw [hnx] at he; exact he⟩
      · have hbb : bareB rn e last = false := by unfold bareB; rw [decide_eq_false (fun hh => hk7 hh.1)]; cases rn <;> rfl
        rw [hbb] at he
        have hk89 : e.kind = 8 ∨ e.kind = 9 := by have := hvk.2.2.2.2; omega
        by_cases hk8 : e.kind = 8
        · have hnx : nxt e last = 0 := by unfold nxt; rw [if_neg hk7, if_pos hk8]
          have h80 : Value.int .i64 (-1) = iv (rB 0) := rfl
          repeat' ((conv => whnf); first | (refine hb.ld hlt ?_ ?_; (· exact hoA); rw [hx]) | (refine hb.fld (v := iv e.kind) hlt (j := 1) ?_ ?_ ?_; (· rw [hx]; rfl); (· exact hoA)) | refine refBytes_c (fr := fr) (e := e) hvk (fun H2 hle2 => ?_); (have hb := hb.le hle2); (have hle3 := hle.trans hle2) | rw [bstr_app2] | ((first | (apply vB; (case h => with_reducible assumption)) | (apply vA; (case h => with_reducible assumption)) | (apply vC; (case h => with_reducible assumption))); (case hk => exact kpA); (case he => omega)) | ((first | (apply vI; (case h => with_reducible assumption)) | (apply vG; (case h => with_reducible assumption)) | (apply vK; (case h => with_reducible assumption))); (case hk => exact kpA); (case he => omega); (case hp => omega); (case' g => intro hr_ hc_)) | ((first | (apply vJ; (case h => with_reducible assumption)) | (apply vH; (case h => with_reducible assumption)) | (apply vL; (case h => with_reducible assumption))); (case hk => exact kpA); (case he => omega); (case' g => intro hr_ hc_)) | (apply drawS_auto mixed tt_ok; (· kernel_rfl)) | apply zZ | apply yA | apply yB | ((first | apply zA | apply zC | apply zE | apply zG); (· with_reducible assumption)) | ((first | apply zB | apply zD | apply zF | apply zH); (· with_reducible assumption)) | apply zM | apply zN | apply zO | apply zP | apply zQ | apply zR | apply zS | apply zT | apply zU | (apply zV; (· omega)) | (apply zW; (· omega)) | (apply zX; (· (first | omega | (dsimp only; omega)))) | (apply zY; (try (apply zY; apply zX; (· omega))); apply zX; (· omega); apply zX; (· (first | omega | (dsimp only; omega)))) | ((first | apply yJ | apply yK | apply yL | apply yM | apply yN | apply yO); (· exact hgA); (· exact hsA)) | (apply yNP; (· exact hgA); (· exact hsA)) | ((first | apply zA | apply zC | apply zE | apply zG); (· omega)) | ((first | apply zB | apply zD | apply zF | apply zH); (· omega)) | ((first | apply zI | apply zK); (· with_reducible assumption)) | ((first | apply zJ | apply zL); (· with_reducible assumption)) | ((first | apply xA | apply xC | apply xE | apply xG); (· first | assumption | rfl)) | ((first | apply xB | apply xD | apply xF | apply xH); (· first | assumption | kernel_rfl)) | fail)
          conv => whnf
          apply Exists.intro (⟨k + 1, 0, _, acc ++ byL e false⟩ : FSt)
          refine ⟨?inv, ?mu, ?wk⟩
          case wk =>
            conv => whnf
            refine weakH_of (HW.refl _) ?_
            repeat' (first | exact WT.nil | refine WT.same ?_ | refine WT.drop ?_ | refine WT.int (by omega) ?_ | refine WT.eq (by assumption) ?_ | refine WT.bl (by first | assumption | (symm; assumption)) ?_ | refine WT.vv (by assumption) ?_)
          case mu => first | omega | (dsimp only; omega)
          case inv => exact ⟨hlt, by dsimp only; exact leA, by dsimp only; rw [List.length_append]; omega, by dsimp only; omega, by dsimp only; rw [List.append_assoc]; rw [hnx] at he; exact he⟩
        · have hnx : nxt e last = last := by unfold nxt; rw [if_neg hk7, if_neg hk8]
          have hk9 : e.kind = 9 := by omega
          repeat' ((conv => whnf); first | (refine hb.ld hlt ?_ ?_; (· exact hoA); rw [hx]) | (refine hb.fld (v := iv e.kind) hlt (j := 1) ?_ ?_ ?_; (· rw [hx]; rfl); (· exact hoA)) | refine refBytes_c (fr := fr) (e := e) hvk (fun H2 hle2 => ?_); (have hb := hb.le hle2); (have hle3 := hle.trans hle2) | rw [bstr_app2] | ((first | (apply vB; (case h => with_reducible assumption)) | (apply vA; (case h => with_reducible assumption)) | (apply vC; (case h => with_reducible assumption))); (case hk => exact kpA); (case he => omega)) | ((first | (apply vI; (case h => with_reducible assumption)) | (apply vG; (case h => with_reducible assumption)) | (apply vK; (case h => with_reducible assumption))); (case hk => exact kpA); (case he => omega); (case hp => omega); (case' g => intro hr_ hc_)) | ((first | (apply vJ; (case h => with_reducible assumption)) | (apply vH; (case h => with_reducible assumption)) | (apply vL; (case h => with_reducible assumption))); (case hk => exact kpA); (case he => omega); (case' g => intro hr_ hc_)) | (apply drawS_auto mixed tt_ok; (· kernel_rfl)) | apply zZ | apply yA | apply yB | ((first | apply zA | apply zC | apply zE | apply zG); (· with_reducible assumption)) | ((first | apply zB | apply zD | apply zF | apply zH); (· with_reducible assumption)) | apply zM | apply zN | apply zO | apply zP | apply zQ | apply zR | apply zS | apply zT | apply zU | (apply zV; (· omega)) | (apply zW; (· omega)) | (apply zX; (· (first | omega | (dsimp only; omega)))) | (apply zY; (try (apply zY; apply zX; (· omega))); apply zX; (· omega); apply zX; (· (first | omega | (dsimp only; omega)))) | ((first | apply yJ | apply yK | apply yL | apply yM | apply yN | apply yO); (· exact hgA); (· exact hsA)) | (apply yNP; (· exact hgA); (· exact hsA)) | ((first | apply zA | apply zC | apply zE | apply zG); (· omega)) | ((first | apply zB | apply zD | apply zF | apply zH); (· omega)) | ((first | apply zI | apply zK); (· with_reducible assumption)) | ((first | apply zJ | apply zL); (· with_reducible assumption)) | ((first | apply xA | apply xC | apply xE | apply xG); (· first | assumption | rfl)) | ((first | apply xB | apply xD | apply xF | apply xH); (· first | assumption | kernel_rfl)) | fail)
          conv => whnf
          apply Exists.intro (⟨k + 1, last, _, acc ++ byL e false⟩ : FSt)
          refine ⟨?inv, ?mu, ?wk⟩
          case wk =>
            conv => whnf
            refine weakH_of (HW.refl _) ?_
            repeat' (first | exact WT.nil | refine WT.same ?_ | refine WT.drop ?_ | refine WT.int (by omega) ?_ | refine WT.eq (by assumption) ?_ | refine WT.bl (by first | assumption | (symm; assumption)) ?_ | refine WT.vv (by assumption) ?_)
          case mu => first | omega | (dsimp only; omega)
          case inv => exact ⟨hlt, by dsimp only; exact leA, by dsimp only; rw [List.length_append]; omega, by dsimp only; omega, by dsimp only; rw [List.append_assoc]; rw [hnx] at he; exact he⟩
    · have hz : k = es.length := by omega
      subst hz
      have he2 : acc = R := by rw [List.drop_length] at he; simpa [encN] using he
      subst he2
      by_cases hbig : 65536 < acc.length
      · rw [if_pos hbig] at h
        repeat' ((conv => whnf); first | ((first | (apply vB; (case h => with_reducible assumption)) | (apply vA; (case h => with_reducible assumption)) | (apply vC; (case h => with_reducible assumption))); (case hk => exact kpA); (case he => omega)) | ((first | (apply vI; (case h => with_reducible assumption)) | (apply vG; (case h => with_reducible assumption)) | (apply vK; (case h => with_reducible assumption))); (case hk => exact kpA); (case he => omega); (case hp => omega); (case' g => intro hr_ hc_)) | ((first | (apply vJ; (case h => with_reducible assumption)) | (apply vH; (case h => with_reducible assumption)) | (apply vL; (case h => with_reducible assumption))); (case hk => exact kpA); (case he => omega); (case' g => intro hr_ hc_)) | (apply drawS_auto mixed tt_ok; (· kernel_rfl)) | apply zZ | apply yA | apply yB | ((first | apply zA | apply zC | apply zE | apply zG); (· with_reducible assumption)) | ((first | apply zB | apply zD | apply zF | apply zH); (· with_reducible assumption)) | apply zM | apply zN | apply zO | apply zP | apply zQ | apply zR | apply zS | apply zT | apply zU | (apply zV; (· omega)) | (apply zW; (· omega)) | (apply zX; (· (first | omega | (dsimp only; omega)))) | (apply zY; (try (apply zY; apply zX; (· omega))); apply zX; (· omega); apply zX; (· (first | omega | (dsimp only; omega)))) | ((first | apply yJ | apply yK | apply yL | apply yM | apply yN | apply yO); (· exact hgA); (· exact hsA)) | (apply yNP; (· exact hgA); (· exact hsA)) | ((first | apply zA | apply zC | apply zE | apply zG); (· omega)) | ((first | apply zB | apply zD | apply zF | apply zH); (· omega)) | ((first | apply zI | apply zK); (· with_reducible assumption)) | ((first | apply zJ | apply zL); (· with_reducible assumption)) | ((first | apply xA | apply xC | apply xE | apply xG); (· first | assumption | rfl)) | ((first | apply xB | apply xD | apply xF | apply xH); (· first | assumption | kernel_rfl)) | fail)
        conv => whnf
        exact h _ hle
      · rw [if_neg hbig] at h
        repeat' ((conv => whnf); first | ((first | (apply vB; (case h => with_reducible assumption)) | (apply vA; (case h => with_reducible assumption)) | (apply vC; (case h => with_reducible assumption))); (case hk => exact kpA); (case he => omega)) | ((first | (apply vI; (case h => with_reducible assumption)) | (apply vG; (case h => with_reducible assumption)) | (apply vK; (case h => with_reducible assumption))); (case hk => exact kpA); (case he => omega); (case hp => omega); (case' g => intro hr_ hc_)) | ((first | (apply vJ; (case h => with_reducible assumption)) | (apply vH; (case h => with_reducible assumption)) | (apply vL; (case h => with_reducible assumption))); (case hk => exact kpA); (case he => omega); (case' g => intro hr_ hc_)) | (apply drawS_auto mixed tt_ok; (· kernel_rfl)) | apply zZ | apply yA | apply yB | ((first | apply zA | apply zC | apply zE | apply zG); (· with_reducible assumption)) | ((first | apply zB | apply zD | apply zF | apply zH); (· with_reducible assumption)) | apply zM | apply zN | apply zO | apply zP | apply zQ | apply zR | apply zS | apply zT | apply zU | (apply zV; (· omega)) | (apply zW; (· omega)) | (apply zX; (· (first | omega | (dsimp only; omega)))) | (apply zY; (try (apply zY; apply zX; (· omega))); apply zX; (· omega); apply zX; (· (first | omega | (dsimp only; omega)))) | ((first | apply yJ | apply yK | apply yL | apply yM | apply yN | apply yO); (· exact hgA); (· exact hsA)) | (apply yNP; (· exact hgA); (· exact hsA)) | ((first | apply zA | apply zC | apply zE | apply zG); (· omega)) | ((first | apply zB | apply zD | apply zF | apply zH); (· omega)) | ((first | apply zI | apply zK); (· with_reducible assumption)) | ((first | apply zJ | apply zL); (· with_reducible assumption)) | ((first | apply xA | apply xC | apply xE | apply xG); (· first | assumption | rfl)) | ((first | apply xB | apply xD | apply xF | apply xH); (· first | assumption | kernel_rfl)) | fail)
        conv => whnf
        exact h _ hle
  · have eR : encR rn es = ([], 1) := by unfold encR; rw [if_neg (by omega)]
    rw [eR] at h
    have h0d : decide (askR es = 0) = false := decide_eq_false (by omega)
    refine callS_walk tt_ok Try.func13 rfl (by kernel_rfl) ?_
    conv => whnf
    repeat' ((conv => whnf); first | refine right_c hn hz hv (fun H1 hle1 => ?_); rw [h0d] | ((first | (apply vB; (case h => with_reducible assumption)) | (apply vA; (case h => with_reducible assumption)) | (apply vC; (case h => with_reducible assumption))); (case hk => exact kpA); (case he => omega)) | ((first | (apply vI; (case h => with_reducible assumption)) | (apply vG; (case h => with_reducible assumption)) | (apply vK; (case h => with_reducible assumption))); (case hk => exact kpA); (case he => omega); (case hp => omega); (case' g => intro hr_ hc_)) | ((first | (apply vJ; (case h => with_reducible assumption)) | (apply vH; (case h => with_reducible assumption)) | (apply vL; (case h => with_reducible assumption))); (case hk => exact kpA); (case he => omega); (case' g => intro hr_ hc_)) | (apply drawS_auto mixed tt_ok; (· kernel_rfl)) | apply zZ | apply yA | apply yB | ((first | apply zA | apply zC | apply zE | apply zG); (· with_reducible assumption)) | ((first | apply zB | apply zD | apply zF | apply zH); (· with_reducible assumption)) | apply zM | apply zN | apply zO | apply zP | apply zQ | apply zR | apply zS | apply zT | apply zU | (apply zV; (· omega)) | (apply zW; (· omega)) | (apply zX; (· (first | omega | (dsimp only; omega)))) | (apply zY; (try (apply zY; apply zX; (· omega))); apply zX; (· omega); apply zX; (· (first | omega | (dsimp only; omega)))) | ((first | apply yJ | apply yK | apply yL | apply yM | apply yN | apply yO); (· exact hgA); (· exact hsA)) | (apply yNP; (· exact hgA); (· exact hsA)) | ((first | apply zA | apply zC | apply zE | apply zG); (· omega)) | ((first | apply zB | apply zD | apply zF | apply zH); (· omega)) | ((first | apply zI | apply zK); (· with_reducible assumption)) | ((first | apply zJ | apply zL); (· with_reducible assumption)) | ((first | apply xA | apply xC | apply xE | apply xG); (· first | assumption | rfl)) | ((first | apply xB | apply xD | apply xF | apply xH); (· first | assumption | kernel_rfl)) | fail)
    conv => whnf
    exact h _ hle1
end
end Go.Abs
