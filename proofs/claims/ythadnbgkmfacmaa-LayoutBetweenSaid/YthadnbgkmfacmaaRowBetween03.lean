/- The statement LayoutBetween is proved: for every input the law returns true and its arguments read as before; no conditions. -/
import Derived.Test.YthadnbgkmfacmaaV03
import Derived.Test.YthadnbgkmfacmaaRows
set_option linter.all false
set_option maxHeartbeats 2000000
set_option maxRecDepth 20000
namespace Go.Abs
open Go Go.Proofs Go.Proofs.Ythadnbgkmfacmaa Go.ChangeAt Go.RowKit Go.ChangeShapes Go.WideShapes
theorem Try.own2 : ownKnob Try.prog.godebug = none := by kernel_rfl
theorem awake_c {H : AHeap} {K : CK} (h : K (.returned (.bool true)) H) : callS P (fnV 10) [] H K :=
  callS_closed mixed tt_ok (n := 60) (by kernel_rfl) h
theorem matrices_v {a b : Option Addr} {c1 c2 : Nat} {e : Int} {xs : List (List Int)} {H : AHeap} {K : CK} (h1 : Mat H a xs) (h2 : Mat H b xs) (h : K (.returned (.bool true)) H) :
    callS P (fnV 13) [.slice a xs.length c1, iv e, .slice b xs.length c2, iv e] H K := by
  refine callS_walk tt_ok Try.func13 rfl (by kernel_rfl) ?_
  conv => whnf
  repeat' ((conv => whnf); first | refine sameMatrix_c h1 h2 ?_ | (apply drawS_auto mixed tt_ok; (· kernel_rfl)) | apply zZ | apply yA | apply yB | ((first | apply zA | apply zC | apply zE | apply zG); (· with_reducible assumption)) | ((first | apply zB | apply zD | apply zF | apply zH); (· with_reducible assumption)) | apply zM | apply zN | apply zO | apply zP | apply zQ | apply zR | apply zS | apply zT | apply zU | (apply zV; (· omega)) | (apply zW; (· omega)) | (apply zX; (· (first | omega | (dsimp only; omega)))) | (apply zY; (try (apply zY; apply zX; (· omega))); apply zX; (· omega); apply zX; (· (first | omega | (dsimp only; omega)))) | ((first | apply zA | apply zC | apply zE | apply zG); (· omega)) | ((first | apply zB | apply zD | apply zF | apply zH); (· omega)) | ((first | apply zI | apply zK); (· with_reducible assumption)) | ((first | apply zJ | apply zL); (· with_reducible assumption)) | fail)
  conv => whnf
  rw [show decide (xs = xs) = true by simp]
  exact h
theorem same_v {a b : Option Addr} {n c1 c2 : Nat} {xs ys : List (List Int)} {H : AHeap} {K : CK} (h1 : Mat H a xs) (h2 : Mat H b ys) (hn : n = xs.length) (e : xs = ys) (h : K (.returned (.bool true)) H) :
    callS P (fnV 29) [.slice a n c1, .slice b ys.length c2] H K := by
  subst hn
  exact sameMatrix_c h1 h2 (by rw [decide_eq_true e]; exact h)
theorem between_law {p q : Option Addr} {c1 c2 : Nat} {fr to : List Int} {lfe : Bool} {H : AHeap} (hf : Row H p fr) (ht : Row H q to) (hc1 : CapOk p fr.length c1) (hc2 : CapOk q to.length c2) :
    ACall P 5 [.slice p fr.length c1, .slice q to.length c2, .bool lfe] H (fun e _ => e = .returned (.bool true)) := by
  have hl1 := hf.len
  have hl2 := ht.len
  refine acall_walk tt_ok Try.func5 rfl ?_
  conv => whnf
  by_cases hs1 : fr.length ≤ 100
  · by_cases hs2 : to.length ≤ 100
    · skip
      repeat' ((conv => whnf); first | refine betP_c hf ht hc1 hc2 (fun H1 p1 d1 hle1 hx1 => ?_) | refine betR_c (hf.kp hle1.kp) (ht.kp hle1.kp) (fun H2 p2 d2 hle2 hx2 => ?_) | (apply drawS_auto mixed tt_ok; (· kernel_rfl)) | apply zZ | apply yA | apply yB | ((first | apply zA | apply zC | apply zE | apply zG); (· with_reducible assumption)) | ((first | apply zB | apply zD | apply zF | apply zH); (· with_reducible assumption)) | apply zM | apply zN | apply zO | apply zP | apply zQ | apply zR | apply zS | apply zT | apply zU | (apply zV; (· omega)) | (apply zW; (· omega)) | (apply zX; (· (first | omega | (dsimp only; omega)))) | (apply zY; (try (apply zY; apply zX; (· omega))); apply zX; (· omega); apply zX; (· (first | omega | (dsimp only; omega)))) | ((first | apply zA | apply zC | apply zE | apply zG); (· omega)) | ((first | apply zB | apply zD | apply zF | apply zH); (· omega)) | ((first | apply zI | apply zK); (· with_reducible assumption)) | ((first | apply zJ | apply zL); (· with_reducible assumption)) | fail)
      conv => whnf
      have hf2 := (hf.kp hle1.kp).kp hle2.kp
      have ht2 := (ht.kp hle1.kp).kp hle2.kp
      repeat' ((conv => whnf); first | refine pickP_c hf2 ht2 hc1 hc2 (fun H3 p3 d3 hle3 hx3 => ?_) | refine pickR_c (hf2.kp hle3.kp) (ht2.kp hle3.kp) (fun H4 p4 d4 hle4 hx4 => ?_) | (apply drawS_auto mixed tt_ok; (· kernel_rfl)) | apply zZ | apply yA | apply yB | ((first | apply zA | apply zC | apply zE | apply zG); (· with_reducible assumption)) | ((first | apply zB | apply zD | apply zF | apply zH); (· with_reducible assumption)) | apply zM | apply zN | apply zO | apply zP | apply zQ | apply zR | apply zS | apply zT | apply zU | (apply zV; (· omega)) | (apply zW; (· omega)) | (apply zX; (· (first | omega | (dsimp only; omega)))) | (apply zY; (try (apply zY; apply zX; (· omega))); apply zX; (· omega); apply zX; (· (first | omega | (dsimp only; omega)))) | ((first | apply zA | apply zC | apply zE | apply zG); (· omega)) | ((first | apply zB | apply zD | apply zF | apply zH); (· omega)) | ((first | apply zI | apply zK); (· with_reducible assumption)) | ((first | apply zJ | apply zL); (· with_reducible assumption)) | fail)
      conv => whnf
      have hf4 := (hf2.kp hle3.kp).kp hle4.kp
      have ha1 := ((hx1.kp hle2.kp).kp hle3.kp).kp hle4.kp
      have ha2 := (hx2.kp hle3.kp).kp hle4.kp
      have ha3 := hx3.kp hle4.kp
      repeat' ((conv => whnf); first | refine layP_c hf4 hc1 ?_ | refine layR_c hf4 ?_ | refine matrices_v ha1 ha2 ?_ | refine matrices_v ha3 hx4 ?_ | (apply drawS_auto mixed tt_ok; (· kernel_rfl)) | apply zZ | apply yA | apply yB | ((first | apply zA | apply zC | apply zE | apply zG); (· with_reducible assumption)) | ((first | apply zB | apply zD | apply zF | apply zH); (· with_reducible assumption)) | apply zM | apply zN | apply zO | apply zP | apply zQ | apply zR | apply zS | apply zT | apply zU | (apply zV; (· omega)) | (apply zW; (· omega)) | (apply zX; (· (first | omega | (dsimp only; omega)))) | (apply zY; (try (apply zY; apply zX; (· omega))); apply zX; (· omega); apply zX; (· (first | omega | (dsimp only; omega)))) | ((first | apply zA | apply zC | apply zE | apply zG); (· omega)) | ((first | apply zB | apply zD | apply zF | apply zH); (· omega)) | ((first | apply zI | apply zK); (· with_reducible assumption)) | ((first | apply zJ | apply zL); (· with_reducible assumption)) | fail)
      conv => whnf
      by_cases hE : picE fr to = 0
      · obtain ⟨g1, g2, g3⟩ := pic_frames hE
        have hb := between_pick (lfe := lfe) hE
        repeat' ((conv => whnf); first | refine plain1_c g3 ha3 (fun _ H5 hle5 => ?_) (fun hp => absurd (pic_plain hE) hp); (have hz1 := ha1.kp hle5.kp); (have hz3 := ha3.kp hle5.kp) | refine same_v hz1 hz3 rfl hb ?_ | (apply awake_c) | (apply drawS_auto mixed tt_ok; (· kernel_rfl)) | apply zZ | apply yA | apply yB | ((first | apply zA | apply zC | apply zE | apply zG); (· with_reducible assumption)) | ((first | apply zB | apply zD | apply zF | apply zH); (· with_reducible assumption)) | apply zM | apply zN | apply zO | apply zP | apply zQ | apply zR | apply zS | apply zT | apply zU | (apply zV; (· omega)) | (apply zW; (· omega)) | (apply zX; (· (first | omega | (dsimp only; omega)))) | (apply zY; (try (apply zY; apply zX; (· omega))); apply zX; (· omega); apply zX; (· (first | omega | (dsimp only; omega)))) | ((first | apply zA | apply zC | apply zE | apply zG); (· omega)) | ((first | apply zB | apply zD | apply zF | apply zH); (· omega)) | ((first | apply zI | apply zK); (· with_reducible assumption)) | ((first | apply zJ | apply zL); (· with_reducible assumption)) | fail)
        conv => whnf
      · skip
        repeat' ((conv => whnf); first | (apply awake_c) | (apply drawS_auto mixed tt_ok; (· kernel_rfl)) | apply zZ | apply yA | apply yB | ((first | apply zA | apply zC | apply zE | apply zG); (· with_reducible assumption)) | ((first | apply zB | apply zD | apply zF | apply zH); (· with_reducible assumption)) | apply zM | apply zN | apply zO | apply zP | apply zQ | apply zR | apply zS | apply zT | apply zU | (apply zV; (· omega)) | (apply zW; (· omega)) | (apply zX; (· (first | omega | (dsimp only; omega)))) | (apply zY; (try (apply zY; apply zX; (· omega))); apply zX; (· omega); apply zX; (· (first | omega | (dsimp only; omega)))) | ((first | apply zA | apply zC | apply zE | apply zG); (· omega)) | ((first | apply zB | apply zD | apply zF | apply zH); (· omega)) | ((first | apply zI | apply zK); (· with_reducible assumption)) | ((first | apply zJ | apply zL); (· with_reducible assumption)) | fail)
        conv => whnf
    · skip
      repeat' ((conv => whnf); first | (apply awake_c) | (apply drawS_auto mixed tt_ok; (· kernel_rfl)) | apply zZ | apply yA | apply yB | ((first | apply zA | apply zC | apply zE | apply zG); (· with_reducible assumption)) | ((first | apply zB | apply zD | apply zF | apply zH); (· with_reducible assumption)) | apply zM | apply zN | apply zO | apply zP | apply zQ | apply zR | apply zS | apply zT | apply zU | (apply zV; (· omega)) | (apply zW; (· omega)) | (apply zX; (· (first | omega | (dsimp only; omega)))) | (apply zY; (try (apply zY; apply zX; (· omega))); apply zX; (· omega); apply zX; (· (first | omega | (dsimp only; omega)))) | ((first | apply zA | apply zC | apply zE | apply zG); (· omega)) | ((first | apply zB | apply zD | apply zF | apply zH); (· omega)) | ((first | apply zI | apply zK); (· with_reducible assumption)) | ((first | apply zJ | apply zL); (· with_reducible assumption)) | fail)
      conv => whnf
  · skip
    repeat' ((conv => whnf); first | (apply awake_c) | (apply drawS_auto mixed tt_ok; (· kernel_rfl)) | apply zZ | apply yA | apply yB | ((first | apply zA | apply zC | apply zE | apply zG); (· with_reducible assumption)) | ((first | apply zB | apply zD | apply zF | apply zH); (· with_reducible assumption)) | apply zM | apply zN | apply zO | apply zP | apply zQ | apply zR | apply zS | apply zT | apply zU | (apply zV; (· omega)) | (apply zW; (· omega)) | (apply zX; (· (first | omega | (dsimp only; omega)))) | (apply zY; (try (apply zY; apply zX; (· omega))); apply zX; (· omega); apply zX; (· (first | omega | (dsimp only; omega)))) | ((first | apply zA | apply zC | apply zE | apply zG); (· omega)) | ((first | apply zB | apply zD | apply zF | apply zH); (· omega)) | ((first | apply zI | apply zK); (· with_reducible assumption)) | ((first | apply zJ | apply zL); (· with_reducible assumption)) | fail)
    conv => whnf
theorem layoutBetween_acall {DH : Type} (ds : List (DataW DH)) (H : AHeap) (vs : List Value) (h : ReadsArgs tt H [39, 39, 4] vs ds) : ACall P 5 vs H (fun e _ => e = .returned (.bool true)) := by
  obtain ⟨v, vs, d, ds, rfl, rfl, h1, h⟩ := readsArgs_cons h
  obtain ⟨v, vs, d, ds, rfl, rfl, h2, h⟩ := readsArgs_cons h
  obtain ⟨v, vs, d, ds, rfl, rfl, h3, h⟩ := readsArgs_cons h
  cases readsArgs_nil h
  obtain ⟨p, c, m, rfl, hm, hc1⟩ := arg_slC h1 rfl rfl (dec_int rfl)
  obtain ⟨q, c2, b, rfl, hb, hc2⟩ := arg_slC h2 rfl rfl (dec_int rfl)
  obtain ⟨x, hx⟩ := arg_one h3 (dec_bool rfl) rfl
  have hx : [v] = [.bool x] := hx
  cases hx
  exact between_law hm hb hc1 hc2
theorem layoutBetween_lifted (os : Os) (started : os.Started) (DH : Type) (enc : TypeId × Value → DH) :
    ReturnsInHanded {} Try.checked os 5 .any (Rows.layoutBetweenSpec.pre6 enc Try.prog Try.f5 [] false) (Rows.layoutBetweenSpec.post enc Try.prog Try.f5 false true false false) :=
  law_returns (C := Try.checked) (m := 12) Try.own2 started (by kernel_rfl) Try.func5
    (ChangeSpec.witness6 (enc := enc) (C := Try.checked) false ⟨#[], #[.slice none 0 0, .slice none 0 0, .bool false], []⟩ 8 (by kernel_rfl) (by kernel_rfl) (by kernel_rfl) (by kernel_rfl))
    tt_ok (by kernel_rfl) rfl (by kernel_rfl) rfl (by kernel_rfl)
    (fun ds hl => by match ds, hl with | [d0, d1, d2], _ => exact ⟨rfl, rfl, rfl⟩)
    (fun ds H vs hs h => layoutBetween_acall ds H vs h)
theorem layoutBetween_holds : Rows.LayoutBetweenSaid :=
  OpenClaim.holds_of_wide 5 Try.f5 rfl rfl rfl rfl rfl rfl rfl ⟨rfl, rfl, rfl, rfl, rfl⟩ rfl rfl rfl rfl rfl (by kernel_rfl) Try.func5 (by kernel_rfl)
    (of_decide_eq_true (by kernel_rfl)) (by unfold Func.isWrapper; rw [if_neg (by decide +kernel)]; exact ⟨rfl, rfl⟩)
    (fun os started H enc _ => layoutBetween_lifted os started H enc)
end Go.Abs
namespace Go.Proofs.Ythadnbgkmfacmaa
theorem layoutBetweenProved : Rows.LayoutBetweenSaid := Go.Abs.layoutBetween_holds
end Go.Proofs.Ythadnbgkmfacmaa
