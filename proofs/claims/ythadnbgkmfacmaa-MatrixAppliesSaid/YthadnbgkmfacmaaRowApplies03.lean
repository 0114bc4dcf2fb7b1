/- The statement MatrixApplies is proved: for every input the law returns true and its arguments read as before; no conditions. -/
import Derived.Test.YthadnbgkmfacmaaN03
import Derived.Test.YthadnbgkmfacmaaP03
import Derived.Test.YthadnbgkmfacmaaH03
import Derived.Test.YthadnbgkmfacmaaRows
set_option linter.all false
set_option maxHeartbeats 2000000
set_option maxRecDepth 20000
namespace Go.Abs
open Go Go.Proofs Go.Proofs.Ythadnbgkmfacmaa Go.ChangeAt Go.RowKit Go.ChangeShapes Go.WideShapes
theorem Try.own2 : ownKnob Try.prog.godebug = none := by kernel_rfl
theorem matrices_v {a b : Option Addr} {c1 c2 : Nat} {e : Int} {xs : List (List Int)} {H : AHeap} {K : CK} (h1 : Mat H a xs) (h2 : Mat H b xs) (h : K (.returned (.bool true)) H) :
    callS P (fnV 13) [.slice a xs.length c1, iv e, .slice b xs.length c2, iv e] H K := by
  refine callS_walk tt_ok Try.func13 rfl (by kernel_rfl) ?_
  conv => whnf
  repeat' ((conv => whnf); first | refine sameMatrix_c h1 h2 ?_ | (apply drawS_auto mixed tt_ok; (· kernel_rfl)) | apply zZ | apply yA | apply yB | ((first | apply zA | apply zC | apply zE | apply zG); (· assumption)) | ((first | apply zB | apply zD | apply zF | apply zH); (· assumption)) | apply zM | apply zN | apply zO | apply zP | apply zQ | apply zR | apply zS | apply zT | apply zU | (apply zV; (· omega)) | (apply zW; (· omega)) | (apply zX; (· (first | omega | (dsimp only; omega)))) | (apply zY; (try (apply zY; apply zX; (· omega))); apply zX; (· omega); apply zX; (· (first | omega | (dsimp only; omega)))) | ((first | apply zA | apply zC | apply zE | apply zG); (· omega)) | ((first | apply zB | apply zD | apply zF | apply zH); (· omega)) | ((first | apply zI | apply zK); (· assumption)) | ((first | apply zJ | apply zL); (· assumption)) | fail)
  conv => whnf
  rw [show decide (xs = xs) = true by simp]
  exact h
noncomputable def plV (m : List (List Int)) : Bool := @decide (matB m = true ∧ Plain m) (Classical.propDecidable _)
def plE (m : List (List Int)) : Int := if matB m = true then 0 else 1
theorem plV_t {m : List (List Int)} (h1 : matB m = true) (h2 : Plain m) : plV m = true := by unfold plV; exact @decide_eq_true _ (Classical.propDecidable _) ⟨h1, h2⟩
theorem plV_f {m : List (List Int)} (h : ¬(matB m = true ∧ Plain m)) : plV m = false := by unfold plV; exact @decide_eq_false _ (Classical.propDecidable _) h
theorem plainP_c {p : Option Addr} {c1 : Nat} {m : List (List Int)} {H : AHeap} {K : CK} (hm : Mat H p m) (h : ∀ H', H.le H' → K (.returned (.tuple #[.bool (plV m), iv (plE m)])) H') : callS P (fnV 28) [.slice p m.length c1] H K := by
  unfold plE at h
  cases hv : matB m with
  | false =>
    rw [plV_f (fun hh => by rw [hv] at hh; cases hh.1), if_neg (by rw [hv]; simp)] at h
    refine callS_walk tt_ok Try.func28 rfl (by kernel_rfl) ?_
    conv => whnf
    repeat' ((conv => whnf); first | refine validM_v mtA hv ?_ | ((first | (apply vB; (case h => assumption)) | (apply vA; (case h => assumption)) | (apply vC; (case h => assumption))); (case hk => exact kpA); (case he => omega)) | ((first | (apply vI; (case h => assumption)) | (apply vG; (case h => assumption)) | (apply vK; (case h => assumption))); (case hk => exact kpA); (case he => omega); (case hp => omega); (case' g => intro hr_ hc_)) | ((first | (apply vJ; (case h => assumption)) | (apply vH; (case h => assumption)) | (apply vL; (case h => assumption))); (case hk => exact kpA); (case he => omega); (case' g => intro hr_ hc_)) | (apply drawS_auto mixed tt_ok; (· kernel_rfl)) | apply zZ | apply yA | apply yB | ((first | apply zA | apply zC | apply zE | apply zG); (· assumption)) | ((first | apply zB | apply zD | apply zF | apply zH); (· assumption)) | apply zM | apply zN | apply zO | apply zP | apply zQ | apply zR | apply zS | apply zT | apply zU | (apply zV; (· omega)) | (apply zW; (· omega)) | (apply zX; (· (first | omega | (dsimp only; omega)))) | (apply zY; (try (apply zY; apply zX; (· omega))); apply zX; (· omega); apply zX; (· (first | omega | (dsimp only; omega)))) | ((first | apply yJ | apply yK | apply yL | apply yM | apply yN | apply yO); (· exact hgA); (· exact hsA)) | (apply yNP; (· exact hgA); (· exact hsA)) | ((first | apply zA | apply zC | apply zE | apply zG); (· omega)) | ((first | apply zB | apply zD | apply zF | apply zH); (· omega)) | ((first | apply zI | apply zK); (· assumption)) | ((first | apply zJ | apply zL); (· assumption)) | ((first | apply xA | apply xC | apply xE | apply xG); (· first | assumption | rfl)) | ((first | apply xB | apply xD | apply xF | apply xH); (· first | assumption | kernel_rfl)) | fail)
    conv => whnf
    exact h _ leA
  | true =>
    rw [if_pos hv] at h
    exact plain1_c hv hm (fun hp => by rw [plV_t hv hp] at h; exact h) (fun hp => by rw [plV_f (fun hh => hp hh.2)] at h; exact h)
theorem refPlainP_c {p : Option Addr} {c1 : Nat} {m : List (List Int)} {H : AHeap} {K : CK} (hm : Mat H p m) (h : K (.returned (.tuple #[.bool (plV m), iv (plE m)])) H) : callS P (fnV 14) [.slice p m.length c1] H K := by
  unfold plE at h
  cases hv : matB m with
  | false =>
    rw [plV_f (fun hh => by rw [hv] at hh; cases hh.1), if_neg (by rw [hv]; simp)] at h
    exact refPlain_no hv hm h
  | true =>
    rw [if_pos hv] at h
    exact refPlain_c hv hm (fun hp => by rw [plV_t hv hp] at h; exact h) (fun hp => by rw [plV_f (fun hh => hp hh.2)] at h; exact h)
theorem applies_law {p q : Option Addr} {c1 c2 : Nat} {m b : List (List Int)} {H : AHeap} (hm : Mat H p m) (hb : Mat H q b) :
    ACall P 7 [.slice p m.length c1, .slice q b.length c2] H (fun e _ => e = .returned (.bool true)) := by
  refine acall_walk tt_ok Try.func7 rfl ?_
  conv => whnf
  repeat' ((conv => whnf); first | refine small_c hm (fun v => ?_) | (apply drawS_auto mixed tt_ok; (· kernel_rfl)) | apply zZ | apply yA | apply yB | ((first | apply zA | apply zC | apply zE | apply zG); (· assumption)) | ((first | apply zB | apply zD | apply zF | apply zH); (· assumption)) | apply zM | apply zN | apply zO | apply zP | apply zQ | apply zR | apply zS | apply zT | apply zU | (apply zV; (· omega)) | (apply zW; (· omega)) | (apply zX; (· (first | omega | (dsimp only; omega)))) | (apply zY; (try (apply zY; apply zX; (· omega))); apply zX; (· omega); apply zX; (· (first | omega | (dsimp only; omega)))) | ((first | apply zA | apply zC | apply zE | apply zG); (· omega)) | ((first | apply zB | apply zD | apply zF | apply zH); (· omega)) | ((first | apply zI | apply zK); (· assumption)) | ((first | apply zJ | apply zL); (· assumption)) | fail)
  conv => whnf
  cases v with
  | false =>
    repeat' ((conv => whnf); first | (apply awake_c) | (apply drawS_auto mixed tt_ok; (· kernel_rfl)) | apply zZ | apply yA | apply yB | ((first | apply zA | apply zC | apply zE | apply zG); (· assumption)) | ((first | apply zB | apply zD | apply zF | apply zH); (· assumption)) | apply zM | apply zN | apply zO | apply zP | apply zQ | apply zR | apply zS | apply zT | apply zU | (apply zV; (· omega)) | (apply zW; (· omega)) | (apply zX; (· (first | omega | (dsimp only; omega)))) | (apply zY; (try (apply zY; apply zX; (· omega))); apply zX; (· omega); apply zX; (· (first | omega | (dsimp only; omega)))) | ((first | apply zA | apply zC | apply zE | apply zG); (· omega)) | ((first | apply zB | apply zD | apply zF | apply zH); (· omega)) | ((first | apply zI | apply zK); (· assumption)) | ((first | apply zJ | apply zL); (· assumption)) | fail)
    conv => whnf
  | true =>
    cases hlb : lightB b with
    | false =>
      repeat' ((conv => whnf); first | (apply light_v; (· exact mtA); (· assumption)) | (apply awake_c) | (apply drawS_auto mixed tt_ok; (· kernel_rfl)) | apply zZ | apply yA | apply yB | ((first | apply zA | apply zC | apply zE | apply zG); (· assumption)) | ((first | apply zB | apply zD | apply zF | apply zH); (· assumption)) | apply zM | apply zN | apply zO | apply zP | apply zQ | apply zR | apply zS | apply zT | apply zU | (apply zV; (· omega)) | (apply zW; (· omega)) | (apply zX; (· (first | omega | (dsimp only; omega)))) | (apply zY; (try (apply zY; apply zX; (· omega))); apply zX; (· omega); apply zX; (· (first | omega | (dsimp only; omega)))) | ((first | apply zA | apply zC | apply zE | apply zG); (· omega)) | ((first | apply zB | apply zD | apply zF | apply zH); (· omega)) | ((first | apply zI | apply zK); (· assumption)) | ((first | apply zJ | apply zL); (· assumption)) | fail)
      conv => whnf
    | true =>
      repeat' ((conv => whnf); first | (apply light_v; (· exact mtA); (· assumption)) | refine normal1_c hm (fun H1 p1 d1 hle1 hx1 => ?_) | refine refNormal_c (hm.kp hle1.kp) (fun H2 p2 d2 hle2 hx2 => ?_) | refine plainP_c ((hm.kp hle1.kp).kp hle2.kp) (fun H3 hle3 => ?_) | refine refPlainP_c (((hm.kp hle1.kp).kp hle2.kp).kp hle3.kp) ?_ | (apply drawS_auto mixed tt_ok; (· kernel_rfl)) | apply zZ | apply yA | apply yB | ((first | apply zA | apply zC | apply zE | apply zG); (· assumption)) | ((first | apply zB | apply zD | apply zF | apply zH); (· assumption)) | apply zM | apply zN | apply zO | apply zP | apply zQ | apply zR | apply zS | apply zT | apply zU | (apply zV; (· omega)) | (apply zW; (· omega)) | (apply zX; (· (first | omega | (dsimp only; omega)))) | (apply zY; (try (apply zY; apply zX; (· omega))); apply zX; (· omega); apply zX; (· (first | omega | (dsimp only; omega)))) | ((first | apply zA | apply zC | apply zE | apply zG); (· omega)) | ((first | apply zB | apply zD | apply zF | apply zH); (· omega)) | ((first | apply zI | apply zK); (· assumption)) | ((first | apply zJ | apply zL); (· assumption)) | fail)
      conv => whnf
      have hm3 := ((hm.kp hle1.kp).kp hle2.kp).kp hle3.kp
      have hb3 := ((hb.kp hle1.kp).kp hle2.kp).kp hle3.kp
      repeat' ((conv => whnf); first | refine apply_c hm3 hb3 (fun H4 p4 d4 hle4 hx4 => ?_) | refine refApply_c (hm3.kp hle4.kp) (hb3.kp hle4.kp) (fun H5 p5 d5 hle5 hx5 => ?_) | (apply drawS_auto mixed tt_ok; (· kernel_rfl)) | apply zZ | apply yA | apply yB | ((first | apply zA | apply zC | apply zE | apply zG); (· assumption)) | ((first | apply zB | apply zD | apply zF | apply zH); (· assumption)) | apply zM | apply zN | apply zO | apply zP | apply zQ | apply zR | apply zS | apply zT | apply zU | (apply zV; (· omega)) | (apply zW; (· omega)) | (apply zX; (· (first | omega | (dsimp only; omega)))) | (apply zY; (try (apply zY; apply zX; (· omega))); apply zX; (· omega); apply zX; (· (first | omega | (dsimp only; omega)))) | ((first | apply zA | apply zC | apply zE | apply zG); (· omega)) | ((first | apply zB | apply zD | apply zF | apply zH); (· omega)) | ((first | apply zI | apply zK); (· assumption)) | ((first | apply zJ | apply zL); (· assumption)) | fail)
      conv => whnf
      have hm5 := (hm3.kp hle4.kp).kp hle5.kp
      have hb5 := (hb3.kp hle4.kp).kp hle5.kp
      have hn1 := (((hx1.kp hle2.kp).kp hle3.kp).kp hle4.kp).kp hle5.kp
      have hn2 := ((hx2.kp hle3.kp).kp hle4.kp).kp hle5.kp
      repeat' ((conv => whnf); first | refine validM_c hm5 ?_ | refine refValidM_c hm5 ?_ | refine layValid_c hb5 ?_ | refine refValid_c hb5 ?_ | refine matrices_v hn1 hn2 ?_ | refine sameBlock_c (hx4.kp hle5.kp) hx5 ?_ | (apply awake_c) | (apply drawS_auto mixed tt_ok; (· kernel_rfl)) | apply zZ | apply yA | apply yB | ((first | apply zA | apply zC | apply zE | apply zG); (· assumption)) | ((first | apply zB | apply zD | apply zF | apply zH); (· assumption)) | apply zM | apply zN | apply zO | apply zP | apply zQ | apply zR | apply zS | apply zT | apply zU | (apply zV; (· omega)) | (apply zW; (· omega)) | (apply zX; (· (first | omega | (dsimp only; omega)))) | (apply zY; (try (apply zY; apply zX; (· omega))); apply zX; (· omega); apply zX; (· (first | omega | (dsimp only; omega)))) | ((first | apply zA | apply zC | apply zE | apply zG); (· omega)) | ((first | apply zB | apply zD | apply zF | apply zH); (· omega)) | ((first | apply zI | apply zK); (· assumption)) | ((first | apply zJ | apply zL); (· assumption)) | fail)
      conv => whnf
theorem matrixApplies_acall {DH : Type} (ds : List (DataW DH)) (H : AHeap) (vs : List Value) (h : ReadsArgs tt H [22, 23] vs ds) : ACall P 7 vs H (fun e _ => e = .returned (.bool true)) := by
  obtain ⟨v, vs, d, ds, rfl, rfl, h1, h⟩ := readsArgs_cons h
  obtain ⟨v, vs, d, ds, rfl, rfl, h2, h⟩ := readsArgs_cons h
  cases readsArgs_nil h
  obtain ⟨p, c, m, rfl, hm⟩ := arg_sl h1 rfl rfl (dec_slice rfl rfl (dec_int rfl))
  obtain ⟨q, c2, b, rfl, hb⟩ := arg_sl h2 rfl rfl (dec_slice rfl rfl (dec_int rfl))
  exact applies_law hm hb
theorem matrixApplies_lifted (os : Os) (started : os.Started) (DH : Type) (enc : TypeId × Value → DH) :
    ReturnsInHanded {} Try.checked os 7 .any (Rows.matrixAppliesSpec.pre6 enc Try.prog Try.f7 [] false) (Rows.matrixAppliesSpec.post enc Try.prog Try.f7 false true false false) :=
  law_returns (C := Try.checked) (m := 12) Try.own2 started (by kernel_rfl) Try.func7
    (ChangeSpec.witness6 (enc := enc) (C := Try.checked) false ⟨#[], #[.slice none 0 0, .slice none 0 0], []⟩ 8 (by kernel_rfl) (by kernel_rfl) (by kernel_rfl) (by kernel_rfl))
    tt_ok (by kernel_rfl) rfl (by kernel_rfl) rfl (by kernel_rfl)
    (fun ds hl => by match ds, hl with | [d0, d1], _ => exact ⟨rfl, rfl, rfl⟩)
    (fun ds H vs hs h => matrixApplies_acall ds H vs h)
theorem matrixApplies_holds : Rows.MatrixAppliesSaid :=
  OpenClaim.holds_of_wide 7 Try.f7 rfl rfl rfl rfl rfl rfl rfl ⟨rfl, rfl, rfl, rfl, rfl⟩ rfl rfl rfl rfl rfl (by kernel_rfl) Try.func7 (by kernel_rfl)
    (of_decide_eq_true (by kernel_rfl)) (by unfold Func.isWrapper; rw [if_neg (by decide +kernel)]; exact ⟨rfl, rfl⟩)
    (fun os started H enc _ => matrixApplies_lifted os started H enc)
end Go.Abs
namespace Go.Proofs.Ythadnbgkmfacmaa
theorem matrixAppliesProved : Rows.MatrixAppliesSaid := Go.Abs.matrixApplies_holds
end Go.Proofs.Ythadnbgkmfacmaa
