/- Contracts of functions that many packages share, continued: how large blocks are, matrices made, rows copied. No conditions beyond those stated. -/
import Derived.Test.YthadnbgkmfacmaaD03
import Derived.Test.YthadnbgkmfacmaaAbsMat
set_option linter.all false
set_option maxHeartbeats 400000
set_option maxRecDepth 20000
namespace Go.Abs
open Go Go.Proofs

abbrev Bls (H : AHeap) (a : Option Addr) (l : List (List (List Int))) : Prop := Sl (RSl RRow 1) 1 H a l
theorem Bls.kp {H H' : AHeap} {a : Option Addr} {l : List (List (List Int))} (h : Bls H a l) (k : Kp H H') : Bls H' a l := Sl.kp (rSl_mono (rSl_mono rInt_mono)) h k
def framesB (b : List (List Int)) : Nat := (b.headD []).length
theorem nothingF_c {n m : Nat} (hn : 1 ≤ n ∧ n ≤ 1000000 ∧ m ≤ 1000000) {H : AHeap} {K : CK}
    (h : ∀ H' o rs, H.le H' → OMat H' H.size o rs (matF (fun _ _ => 0) n m) [] → K (.returned (.slice (some ⟨o, 0, none⟩) n n)) H') : callS P (fnV 48) [iv n, iv m] H K :=
  nothing_c hn (by rw [← matF_zero]; exact h)
theorem empty_c {n m : Nat} (hn : n ≤ 1000000 ∧ m ≤ 1000000) {H : AHeap} {K : CK}
    (h : ∀ H' o rs, H.le H' → OMat H' H.size o rs (matF (fun _ _ => 0) n m) [] → K (.returned (.slice (some ⟨o, 0, none⟩) n n)) H') : callS P (fnV 43) [iv n, iv m] H K := by
  refine callS_walk tt_ok Try.func43 rfl (by kernel_rfl) ?_
  conv => whnf
  repeat' ((conv => whnf); first | apply yA | apply yB | ((first | apply zA | apply zC | apply zE | apply zG); (· assumption)) | ((first | apply zB | apply zD | apply zF | apply zH); (· assumption)) | apply zM | apply zN | apply zO | apply zP | apply zQ | apply zR | apply zS | apply zT | apply zU | (apply zV; (· omega)) | (apply zW; (· omega)) | (apply zX; (· (first | omega | (dsimp only; omega)))) | (apply zY; (try (apply zY; apply zX; (· omega))); apply zX; (· omega); apply zX; (· (first | omega | (dsimp only; omega)))) | ((first | apply yJ | apply yK | apply yL | apply yM | apply yN | apply yO); (· exact hgA); (· exact hsA)) | ((first | apply zA | apply zC | apply zE | apply zG); (· omega)) | ((first | apply zB | apply zD | apply zF | apply zH); (· omega)) | ((first | apply zI | apply zK); (· assumption)) | ((first | apply zJ | apply zL); (· assumption)) | fail)
  conv => whnf
  apply loopS_mask tt_ok (fun (k : Nat × AHeap × List Nat) => [.w, .k, .w, .w, .w, .k, .w, .w, .w, .w, .k, .p (iv k.1), .w, .w, .w, .w, .w, .w, .w, .w, .w]) (fun (k : Nat × AHeap × List Nat) => k.2.1) (fun (k : Nat × AHeap × List Nat) => k.1 ≤ n ∧ H.le k.2.1 ∧ OMat k.2.1 H.size H.size k.2.2 (matF (fun _ _ => 0) k.1 m) (List.replicate (n - k.1) (.slice none 0 0))) (fun (k : Nat × AHeap × List Nat) => n - k.1) (⟨0, _, []⟩)
  case hst =>
    conv => whnf
    refine weakH_of (HW.refl _) ?_
    repeat' (first | exact WT.nil | refine WT.same ?_ | refine WT.drop ?_ | refine WT.int (by omega) ?_ | refine WT.eq (by assumption) ?_ | refine WT.bl (by first | assumption | (symm; assumption)) ?_ | refine WT.vv (by assumption) ?_)
  case h0 => exact ⟨by omega, leA, ⟨rfl, hgA, fun k h1 => absurd h1 (by simp), by simp, by simp, ⟨by omega, by simp⟩, ⟨hoA, by simp⟩⟩⟩
  intro k hk
  obtain ⟨k, H1, rs⟩ := k
  obtain ⟨hk, hle, hom⟩ := hk
  dsimp only at hk hle hom ⊢
  have hsz := hle.size
  by_cases hlt : k < n
  · have ho := hom.outer
    have hlt1 := hom.lt.1
    have hz : (zipS rs (matF (fun _ _ => 0) k m)).length = k := by rw [zipS_len hom.len, matF_len]
    have hrep : List.replicate (n - k) (Value.slice none 0 0) = Value.slice none 0 0 :: List.replicate (n - (k + 1)) (Value.slice none 0 0) := by
      rw [show n - k = (n - (k + 1)) + 1 by omega, List.replicate_succ]
    rw [hrep] at hom ho
    repeat' ((conv => whnf); first | apply yA | apply yB | ((first | apply zA | apply zC | apply zE | apply zG); (· assumption)) | ((first | apply zB | apply zD | apply zF | apply zH); (· assumption)) | apply zM | apply zN | apply zO | apply zP | apply zQ | apply zR | apply zS | apply zT | apply zU | (apply zV; (· omega)) | (apply zW; (· omega)) | (apply zX; (· (first | omega | (dsimp only; omega)))) | (apply zY; (try (apply zY; apply zX; (· omega))); apply zX; (· omega); apply zX; (· (first | omega | (dsimp only; omega)))) | ((first | apply yJ | apply yK | apply yL | apply yM | apply yN | apply yO); (· exact hgA); (· exact hsA)) | ((first | apply zA | apply zC | apply zE | apply zG); (· omega)) | ((first | apply zB | apply zD | apply zF | apply zH); (· omega)) | ((first | apply zI | apply zK); (· assumption)) | ((first | apply zJ | apply zL); (· assumption)) | fail)
    conv => whnf
    apply Exists.intro (k + 1, _, rs ++ [H1.size])
    refine ⟨?inv, ?mu, ?wk⟩
    case wk =>
      conv => whnf
      refine weakH_of (HW.refl _) ?_
      repeat' (first | exact WT.nil | refine WT.same ?_ | refine WT.drop ?_ | refine WT.int (by omega) ?_ | refine WT.eq (by assumption) ?_ | refine WT.bl (by first | assumption | (symm; assumption)) ?_ | refine WT.vv (by assumption) ?_)
    case mu => first | omega | (dsimp only; omega)
    case inv => exact ⟨by omega, leA, by
      rw [matF_snoc]
      refine hom.put (by omega) (by simp) (by simp) ?_ hgA (by rw [rowF_zero, List.map_replicate]; (repeat (first | assumption | ((first | apply yP | apply yQ); (first | omega | (simp; done) | (simp; omega))) | ((first | refine (yR _ _ ?_).trans ?_ | refine (yS _ _ ?_).trans ?_ | refine (yT _ ?_).trans ?_ | refine (yU (by assumption) _ ?_).trans ?_); (· (first | omega | (simp; done) | (simp; omega)))) | exact rfl))) (fun i hi hne => hgA)
      rw [matF_len, rowF_len]
      congr 1
      simp⟩
  · have hkn : k = n := by omega
    subst hkn
    rw [Nat.sub_self] at hom
    repeat' ((conv => whnf); first | apply yA | apply yB | ((first | apply zA | apply zC | apply zE | apply zG); (· assumption)) | ((first | apply zB | apply zD | apply zF | apply zH); (· assumption)) | apply zM | apply zN | apply zO | apply zP | apply zQ | apply zR | apply zS | apply zT | apply zU | (apply zV; (· omega)) | (apply zW; (· omega)) | (apply zX; (· (first | omega | (dsimp only; omega)))) | (apply zY; (try (apply zY; apply zX; (· omega))); apply zX; (· omega); apply zX; (· (first | omega | (dsimp only; omega)))) | ((first | apply yJ | apply yK | apply yL | apply yM | apply yN | apply yO); (· exact hgA); (· exact hsA)) | ((first | apply zA | apply zC | apply zE | apply zG); (· omega)) | ((first | apply zB | apply zD | apply zF | apply zH); (· omega)) | ((first | apply zI | apply zK); (· assumption)) | ((first | apply zJ | apply zL); (· assumption)) | fail)
    conv => whnf
    exact h _ _ _ hle hom
end Go.Abs
