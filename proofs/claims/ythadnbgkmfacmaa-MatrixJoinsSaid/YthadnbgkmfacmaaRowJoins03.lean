/- The statement MatrixJoins is proved: for every input the law returns true and its arguments read as before; no conditions. -/
import Derived.Test.YthadnbgkmfacmaaN03
import Derived.Test.YthadnbgkmfacmaaRows
set_option linter.all false
set_option maxHeartbeats 2000000
set_option maxRecDepth 20000
namespace Go.Abs
open Go Go.Proofs Go.Proofs.Ythadnbgkmfacmaa Go.ChangeAt Go.RowKit Go.ChangeShapes Go.WideShapes
theorem Try.own2 : ownKnob Try.prog.godebug = none := by kernel_rfl
theorem matrices_v {a b : Option Addr} {c1 c2 : Nat} {e : Int} {xs : List (List Int)} {H : AHeap} {K : CK} (h1 : Mat H a xs) (h2 : Mat H b xs) (h : K (.returned (.bool true)) H) :
    callS P (fnV 13) [.slice a xs.length c1, iv e, .slice b xs.length c2, iv e] H K := by
  refine callS_walk tt_ok Try.func13 rfl (by kernel_rfl) ?_
  conv => whnf
  repeat' ((conv => whnf); first | refine sameMatrix_c h1 h2 ?_ | (apply drawS_auto mixed tt_ok; (· kernel_rfl)) | apply zZ | apply yA | apply yB | ((first | apply zA | apply zC | apply zE | apply zG); (· assumption)) | ((first | apply zB | apply zD | apply zF | apply zH); (· assumption)) | apply zM | apply zN | apply zO | apply zP | apply zQ | apply zR | apply zS | apply zT | apply zU | (apply zV; (· omega)) | (apply zW; (· omega)) | (apply zX; (· (first | omega | (dsimp only; omega)))) | (apply zY; (try (apply zY; apply zX; (· omega))); apply zX; (· omega); apply zX; (· (first | omega | (dsimp only; omega)))) | ((first | apply zA | apply zC | apply zE | apply zG); (· omega)) | ((first | apply zB | apply zD | apply zF | apply zH); (· omega)) | ((first | apply zI | apply zK); (· assumption)) | ((first | apply zJ | apply zL); (· assumption)) | fail)
  conv => whnf
  rw [show decide (xs = xs) = true by simp]
  exact h
theorem plain_x {p : Option Addr} {c1 : Nat} {m : List (List Int)} {H : AHeap} {K : CK} (hm : Mat H p m) (h : ∀ v e, (v = true → Plain m) → K (.returned (.tuple #[.bool v, iv e])) H) : callS P (fnV 14) [.slice p m.length c1] H K := by
  cases hv : matB m with
  | false => exact refPlain_no hv hm (h _ _ (by simp))
  | true => exact refPlain_c hv hm (fun hp => h _ _ (fun _ => hp)) (fun _ => h _ _ (by simp))
theorem frames_matF (f : Nat → Nat → Int) {n L : Nat} (hn : 0 < n) : framesB (matF f n L) = L := by
  have h0 : 0 < (matF f n L).length := by rw [matF_len]; exact hn
  rw [frames0 h0, matF_get, rowF_len]
theorem app_ok {m b : List (List Int)} (h : appE m b = 0) : matB m = true ∧ blockB b = true ∧ framesB m = b.length := by
  unfold appE at h
  by_cases h1 : matB m = true ∧ blockB b = true
  · rw [if_pos h1] at h
    by_cases h2 : framesB m = b.length
    · exact ⟨h1.1, h1.2, h2⟩
    · rw [if_neg h2] at h; omega
  · rw [if_neg h1] at h; omega
theorem jo_ok {m b : List (List Int)} (h : joE m b = 0) : matB m = true ∧ matB b = true ∧ framesB m = b.length := by
  unfold joE at h
  by_cases h1 : matB m = true ∧ matB b = true
  · rw [if_pos h1] at h
    by_cases h2 : framesB m = b.length
    · exact ⟨h1.1, h1.2, h2⟩
    · rw [if_neg h2] at h; omega
  · rw [if_neg h1] at h; omega
theorem appM_ok {m b : List (List Int)} (h : appE m b = 0) : appM m b = matF (appF m b) m.length (framesB b) := by rw [appM, if_pos h]
theorem joins_all {S G b : List (List Int)} (hJ : joE S G = 0) (hA : appE G b = 0) (hp : Plain G ∨ Plain S) : appE S (appM G b) = 0 ∧ appE (joM S G) b = 0 ∧ appM S (appM G b) = appM (joM S G) b := by
  obtain ⟨vS, vG, d1⟩ := jo_ok hJ
  obtain ⟨_, vb, d2⟩ := app_ok hA
  obtain ⟨⟨hS1, _⟩, _, _⟩ := matB_rows vS
  obtain ⟨⟨hG1, _⟩, _, _⟩ := matB_rows vG
  have eX : appM G b = matF (appF G b) G.length (framesB b) := by rw [appM, if_pos hA]
  have eJ : joM S G = matF (joF S G) S.length (framesB G) := by rw [joM, if_pos hJ]
  have h1 : appE S (appM G b) = 0 := by rw [eX, appE, if_pos ⟨vS, app_block vG vb⟩, matF_len, if_pos d1]
  have h2 : appE (joM S G) b = 0 := by rw [eJ, appE, if_pos ⟨join_mat vS vG, vb⟩, frames_matF _ (by omega), if_pos d2]
  refine ⟨h1, h2, ?_⟩
  have l1 : framesB (appM G b) = framesB b := by rw [eX, frames_matF _ (by omega)]
  have l2 : (joM S G).length = S.length := by rw [eJ, matF_len]
  rw [appM_ok h1, appM_ok h2, l1, l2, eX, eJ]
  exact matF_congr fun i hi f hf => joins_eq vS vG vb d1 d2 hp hi hf
theorem joins_law {p q r : Option Addr} {c1 c2 c3 : Nat} {G S b : List (List Int)} {H : AHeap} (hG : Mat H p G) (hS : Mat H q S) (hb : Mat H r b) :
    ACall P 3 [.slice p G.length c1, .slice q S.length c2, .slice r b.length c3] H (fun e _ => e = .returned (.bool true)) := by
  refine acall_walk tt_ok Try.func3 rfl ?_
  conv => whnf
  repeat' ((conv => whnf); first | refine small_c hG (fun v => ?_) | (apply drawS_auto mixed tt_ok; (· kernel_rfl)) | apply zZ | apply yA | apply yB | ((first | apply zA | apply zC | apply zE | apply zG); (· assumption)) | ((first | apply zB | apply zD | apply zF | apply zH); (· assumption)) | apply zM | apply zN | apply zO | apply zP | apply zQ | apply zR | apply zS | apply zT | apply zU | (apply zV; (· omega)) | (apply zW; (· omega)) | (apply zX; (· (first | omega | (dsimp only; omega)))) | (apply zY; (try (apply zY; apply zX; (· omega))); apply zX; (· omega); apply zX; (· (first | omega | (dsimp only; omega)))) | ((first | apply zA | apply zC | apply zE | apply zG); (· omega)) | ((first | apply zB | apply zD | apply zF | apply zH); (· omega)) | ((first | apply zI | apply zK); (· assumption)) | ((first | apply zJ | apply zL); (· assumption)) | fail)
  conv => whnf
  cases v with
  | false =>
    repeat' ((conv => whnf); first | (apply awake_c) | (apply drawS_auto mixed tt_ok; (· kernel_rfl)) | apply zZ | apply yA | apply yB | ((first | apply zA | apply zC | apply zE | apply zG); (· assumption)) | ((first | apply zB | apply zD | apply zF | apply zH); (· assumption)) | apply zM | apply zN | apply zO | apply zP | apply zQ | apply zR | apply zS | apply zT | apply zU | (apply zV; (· omega)) | (apply zW; (· omega)) | (apply zX; (· (first | omega | (dsimp only; omega)))) | (apply zY; (try (apply zY; apply zX; (· omega))); apply zX; (· omega); apply zX; (· (first | omega | (dsimp only; omega)))) | ((first | apply zA | apply zC | apply zE | apply zG); (· omega)) | ((first | apply zB | apply zD | apply zF | apply zH); (· omega)) | ((first | apply zI | apply zK); (· assumption)) | ((first | apply zJ | apply zL); (· assumption)) | fail)
    conv => whnf
  | true =>
    repeat' ((conv => whnf); first | refine small_c hS (fun v => ?_) | (apply drawS_auto mixed tt_ok; (· kernel_rfl)) | apply zZ | apply yA | apply yB | ((first | apply zA | apply zC | apply zE | apply zG); (· assumption)) | ((first | apply zB | apply zD | apply zF | apply zH); (· assumption)) | apply zM | apply zN | apply zO | apply zP | apply zQ | apply zR | apply zS | apply zT | apply zU | (apply zV; (· omega)) | (apply zW; (· omega)) | (apply zX; (· (first | omega | (dsimp only; omega)))) | (apply zY; (try (apply zY; apply zX; (· omega))); apply zX; (· omega); apply zX; (· (first | omega | (dsimp only; omega)))) | ((first | apply zA | apply zC | apply zE | apply zG); (· omega)) | ((first | apply zB | apply zD | apply zF | apply zH); (· omega)) | ((first | apply zI | apply zK); (· assumption)) | ((first | apply zJ | apply zL); (· assumption)) | fail)
    conv => whnf
    cases v with
    | false =>
      repeat' ((conv => whnf); first | (apply awake_c) | (apply drawS_auto mixed tt_ok; (· kernel_rfl)) | apply zZ | apply yA | apply yB | ((first | apply zA | apply zC | apply zE | apply zG); (· assumption)) | ((first | apply zB | apply zD | apply zF | apply zH); (· assumption)) | apply zM | apply zN | apply zO | apply zP | apply zQ | apply zR | apply zS | apply zT | apply zU | (apply zV; (· omega)) | (apply zW; (· omega)) | (apply zX; (· (first | omega | (dsimp only; omega)))) | (apply zY; (try (apply zY; apply zX; (· omega))); apply zX; (· omega); apply zX; (· (first | omega | (dsimp only; omega)))) | ((first | apply zA | apply zC | apply zE | apply zG); (· omega)) | ((first | apply zB | apply zD | apply zF | apply zH); (· omega)) | ((first | apply zI | apply zK); (· assumption)) | ((first | apply zJ | apply zL); (· assumption)) | fail)
      conv => whnf
    | true =>
      cases hlb : lightB b with
      | false =>
        repeat' ((conv => whnf); first | (apply light_v; (· exact mtA); (· assumption)) | (apply awake_c) | (apply drawS_auto mixed tt_ok; (· kernel_rfl)) | apply zZ | apply yA | apply yB | ((first | apply zA | apply zC | apply zE | apply zG); (· assumption)) | ((first | apply zB | apply zD | apply zF | apply zH); (· assumption)) | apply zM | apply zN | apply zO | apply zP | apply zQ | apply zR | apply zS | apply zT | apply zU | (apply zV; (· omega)) | (apply zW; (· omega)) | (apply zX; (· (first | omega | (dsimp only; omega)))) | (apply zY; (try (apply zY; apply zX; (· omega))); apply zX; (· omega); apply zX; (· (first | omega | (dsimp only; omega)))) | ((first | apply zA | apply zC | apply zE | apply zG); (· omega)) | ((first | apply zB | apply zD | apply zF | apply zH); (· omega)) | ((first | apply zI | apply zK); (· assumption)) | ((first | apply zJ | apply zL); (· assumption)) | fail)
        conv => whnf
      | true =>
        repeat' ((conv => whnf); first | (apply light_v; (· exact mtA); (· assumption)) | refine join_c hS hG (fun H1 p1 d1 hle1 hj1 => ?_) | refine refJoin_c (hS.kp hle1.kp) (hG.kp hle1.kp) (fun H2 p2 d2 hle2 hj2 => ?_) | refine matrices_v (hj1.kp hle2.kp) hj2 ?_ | refine plain_x ((hG.kp hle1.kp).kp hle2.kp) (fun v1 e1 hv1 => ?_) | refine plain_x ((hS.kp hle1.kp).kp hle2.kp) (fun v2 e2 hv2 => ?_) | refine apply_c ((hG.kp hle1.kp).kp hle2.kp) ((hb.kp hle1.kp).kp hle2.kp) (fun H3 p3 d3 hle3 hx3 => ?_) | (apply drawS_auto mixed tt_ok; (· kernel_rfl)) | apply zZ | apply yA | apply yB | ((first | apply zA | apply zC | apply zE | apply zG); (· assumption)) | ((first | apply zB | apply zD | apply zF | apply zH); (· assumption)) | apply zM | apply zN | apply zO | apply zP | apply zQ | apply zR | apply zS | apply zT | apply zU | (apply zV; (· omega)) | (apply zW; (· omega)) | (apply zX; (· (first | omega | (dsimp only; omega)))) | (apply zY; (try (apply zY; apply zX; (· omega))); apply zX; (· omega); apply zX; (· (first | omega | (dsimp only; omega)))) | ((first | apply zA | apply zC | apply zE | apply zG); (· omega)) | ((first | apply zB | apply zD | apply zF | apply zH); (· omega)) | ((first | apply zI | apply zK); (· assumption)) | ((first | apply zJ | apply zL); (· assumption)) | fail)
        conv => whnf
        by_cases hJ : joE S G = 0
        · by_cases hA : appE G b = 0
          · by_cases hpl : v1 = false ∧ v2 = false
            · obtain ⟨rfl, rfl⟩ := hpl
              rw [hJ, hA]
              repeat' ((conv => whnf); first | (apply awake_c) | (apply drawS_auto mixed tt_ok; (· kernel_rfl)) | apply zZ | apply yA | apply yB | ((first | apply zA | apply zC | apply zE | apply zG); (· assumption)) | ((first | apply zB | apply zD | apply zF | apply zH); (· assumption)) | apply zM | apply zN | apply zO | apply zP | apply zQ | apply zR | apply zS | apply zT | apply zU | (apply zV; (· omega)) | (apply zW; (· omega)) | (apply zX; (· (first | omega | (dsimp only; omega)))) | (apply zY; (try (apply zY; apply zX; (· omega))); apply zX; (· omega); apply zX; (· (first | omega | (dsimp only; omega)))) | ((first | apply zA | apply zC | apply zE | apply zG); (· omega)) | ((first | apply zB | apply zD | apply zF | apply zH); (· omega)) | ((first | apply zI | apply zK); (· assumption)) | ((first | apply zJ | apply zL); (· assumption)) | fail)
              conv => whnf
            · have hp : Plain G ∨ Plain S := by
                cases v1 with
                | true => exact .inl (hv1 rfl)
                | false => cases v2 with
                  | true => exact .inr (hv2 rfl)
                  | false => exact absurd ⟨rfl, rfl⟩ hpl
              obtain ⟨q1, q2, q3⟩ := joins_all hJ hA hp
              have hS3 := ((hS.kp hle1.kp).kp hle2.kp).kp hle3.kp
              have hb3 := ((hb.kp hle1.kp).kp hle2.kp).kp hle3.kp
              have hj3 := (hj1.kp hle2.kp).kp hle3.kp
              rw [hJ, hA]
              cases v1 with
              | true =>
                repeat' ((conv => whnf); first | refine apply_c hS3 hx3 (fun H4 p4 d4 hle4 hy4 => ?_); rw [q1] | refine apply_c (hj3.kp hle4.kp) (hb3.kp hle4.kp) (fun H5 p5 d5 hle5 hz5 => ?_); rw [q2] | refine sameBlock_c (xs := appM S (appM G b)) (ys := appM (joM S G) b) (hy4.kp hle5.kp) hz5 ?_; rw [decide_eq_true q3] | (apply awake_c) | (apply drawS_auto mixed tt_ok; (· kernel_rfl)) | apply zZ | apply yA | apply yB | ((first | apply zA | apply zC | apply zE | apply zG); (· assumption)) | ((first | apply zB | apply zD | apply zF | apply zH); (· assumption)) | apply zM | apply zN | apply zO | apply zP | apply zQ | apply zR | apply zS | apply zT | apply zU | (apply zV; (· omega)) | (apply zW; (· omega)) | (apply zX; (· (first | omega | (dsimp only; omega)))) | (apply zY; (try (apply zY; apply zX; (· omega))); apply zX; (· omega); apply zX; (· (first | omega | (dsimp only; omega)))) | ((first | apply zA | apply zC | apply zE | apply zG); (· omega)) | ((first | apply zB | apply zD | apply zF | apply zH); (· omega)) | ((first | apply zI | apply zK); (· assumption)) | ((first | apply zJ | apply zL); (· assumption)) | fail)
                conv => whnf
              | false =>
                cases v2 with
                | false => exact absurd ⟨rfl, rfl⟩ hpl
                | true =>
                  repeat' ((conv => whnf); first | refine apply_c hS3 hx3 (fun H4 p4 d4 hle4 hy4 => ?_); rw [q1] | refine apply_c (hj3.kp hle4.kp) (hb3.kp hle4.kp) (fun H5 p5 d5 hle5 hz5 => ?_); rw [q2] | refine sameBlock_c (xs := appM S (appM G b)) (ys := appM (joM S G) b) (hy4.kp hle5.kp) hz5 ?_; rw [decide_eq_true q3] | (apply awake_c) | (apply drawS_auto mixed tt_ok; (· kernel_rfl)) | apply zZ | apply yA | apply yB | ((first | apply zA | apply zC | apply zE | apply zG); (· assumption)) | ((first | apply zB | apply zD | apply zF | apply zH); (· assumption)) | apply zM | apply zN | apply zO | apply zP | apply zQ | apply zR | apply zS | apply zT | apply zU | (apply zV; (· omega)) | (apply zW; (· omega)) | (apply zX; (· (first | omega | (dsimp only; omega)))) | (apply zY; (try (apply zY; apply zX; (· omega))); apply zX; (· omega); apply zX; (· (first | omega | (dsimp only; omega)))) | ((first | apply zA | apply zC | apply zE | apply zG); (· omega)) | ((first | apply zB | apply zD | apply zF | apply zH); (· omega)) | ((first | apply zI | apply zK); (· assumption)) | ((first | apply zJ | apply zL); (· assumption)) | fail)
                  conv => whnf
          · rw [hJ]
            repeat' ((conv => whnf); first | (apply awake_c) | (apply drawS_auto mixed tt_ok; (· kernel_rfl)) | apply zZ | apply yA | apply yB | ((first | apply zA | apply zC | apply zE | apply zG); (· assumption)) | ((first | apply zB | apply zD | apply zF | apply zH); (· assumption)) | apply zM | apply zN | apply zO | apply zP | apply zQ | apply zR | apply zS | apply zT | apply zU | (apply zV; (· omega)) | (apply zW; (· omega)) | (apply zX; (· (first | omega | (dsimp only; omega)))) | (apply zY; (try (apply zY; apply zX; (· omega))); apply zX; (· omega); apply zX; (· (first | omega | (dsimp only; omega)))) | ((first | apply zA | apply zC | apply zE | apply zG); (· omega)) | ((first | apply zB | apply zD | apply zF | apply zH); (· omega)) | ((first | apply zI | apply zK); (· assumption)) | ((first | apply zJ | apply zL); (· assumption)) | fail)
            conv => whnf
        · skip
          repeat' ((conv => whnf); first | (apply awake_c) | (apply drawS_auto mixed tt_ok; (· kernel_rfl)) | apply zZ | apply yA | apply yB | ((first | apply zA | apply zC | apply zE | apply zG); (· assumption)) | ((first | apply zB | apply zD | apply zF | apply zH); (· assumption)) | apply zM | apply zN | apply zO | apply zP | apply zQ | apply zR | apply zS | apply zT | apply zU | (apply zV; (· omega)) | (apply zW; (· omega)) | (apply zX; (· (first | omega | (dsimp only; omega)))) | (apply zY; (try (apply zY; apply zX; (· omega))); apply zX; (· omega); apply zX; (· (first | omega | (dsimp only; omega)))) | ((first | apply zA | apply zC | apply zE | apply zG); (· omega)) | ((first | apply zB | apply zD | apply zF | apply zH); (· omega)) | ((first | apply zI | apply zK); (· assumption)) | ((first | apply zJ | apply zL); (· assumption)) | fail)
          conv => whnf
theorem matrixJoins_acall {DH : Type} (ds : List (DataW DH)) (H : AHeap) (vs : List Value) (h : ReadsArgs tt H [22, 22, 23] vs ds) : ACall P 3 vs H (fun e _ => e = .returned (.bool true)) := by
  obtain ⟨v, vs, d, ds, rfl, rfl, h1, h⟩ := readsArgs_cons h
  obtain ⟨v, vs, d, ds, rfl, rfl, h2, h⟩ := readsArgs_cons h
  obtain ⟨v, vs, d, ds, rfl, rfl, h3, h⟩ := readsArgs_cons h
  cases readsArgs_nil h
  obtain ⟨p, c1, m1, rfl, hm1⟩ := arg_sl h1 rfl rfl (dec_slice rfl rfl (dec_int rfl))
  obtain ⟨q, c2, m2, rfl, hm2⟩ := arg_sl h2 rfl rfl (dec_slice rfl rfl (dec_int rfl))
  obtain ⟨r, c3, b, rfl, hb⟩ := arg_sl h3 rfl rfl (dec_slice rfl rfl (dec_int rfl))
  exact joins_law hm1 hm2 hb
theorem matrixJoins_lifted (os : Os) (started : os.Started) (DH : Type) (enc : TypeId × Value → DH) :
    ReturnsInHanded {} Try.checked os 3 .any (Rows.matrixJoinsSpec.pre6 enc Try.prog Try.f3 [] false) (Rows.matrixJoinsSpec.post enc Try.prog Try.f3 false true false false) :=
  law_returns (C := Try.checked) (m := 12) Try.own2 started (by kernel_rfl) Try.func3
    (ChangeSpec.witness6 (enc := enc) (C := Try.checked) false ⟨#[], #[.slice none 0 0, .slice none 0 0, .slice none 0 0], []⟩ 8 (by kernel_rfl) (by kernel_rfl) (by kernel_rfl) (by kernel_rfl))
    tt_ok (by kernel_rfl) rfl (by kernel_rfl) rfl (by kernel_rfl)
    (fun ds hl => by match ds, hl with | [d0, d1, d2], _ => exact ⟨rfl, rfl, rfl⟩)
    (fun ds H vs hs h => matrixJoins_acall ds H vs h)
theorem matrixJoins_holds : Rows.MatrixJoinsSaid :=
  OpenClaim.holds_of_wide 3 Try.f3 rfl rfl rfl rfl rfl rfl rfl ⟨rfl, rfl, rfl, rfl, rfl⟩ rfl rfl rfl rfl rfl (by kernel_rfl) Try.func3 (by kernel_rfl)
    (of_decide_eq_true (by kernel_rfl)) (by unfold Func.isWrapper; rw [if_neg (by decide +kernel)]; exact ⟨rfl, rfl⟩)
    (fun os started H enc _ => matrixJoins_lifted os started H enc)
end Go.Abs
namespace Go.Proofs.Ythadnbgkmfacmaa
theorem matrixJoinsProved : Rows.MatrixJoinsSaid := Go.Abs.matrixJoins_holds
end Go.Proofs.Ythadnbgkmfacmaa
