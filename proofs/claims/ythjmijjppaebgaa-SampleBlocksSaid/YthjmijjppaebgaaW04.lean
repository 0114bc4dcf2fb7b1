/- Contracts of the reference's bytes: written, laid, Encode. -/
import Derived.Test.YthjmijjppaebgaaZ04
set_option linter.all false
set_option maxHeartbeats 2000000
set_option maxRecDepth 20000
namespace Go.Abs
open Go Go.Proofs

theorem shr8 (l : Int) {a b : Int} (ha : 0 ≤ a ∧ a ≤ 24) (hb : b = a + 8) : shrOf .i64 (shrOf .i64 l a) 8 = shrOf .i64 l b := by
  subst hb
  rw [shr_eq, shr_eq, shr_eq]
  have e1 : min (8 : Int).toNat 64 = 8 := by decide
  have e2 : min a.toNat 64 = a.toNat := by omega
  have e3 : min (a + 8).toNat 64 = a.toNat + 8 := by omega
  rw [e1, e2, e3, Int.ediv_ediv_of_nonneg (by exact Int.le_of_lt (Int.pow_pos (by decide))), Int.pow_add]
theorem and_u8 (n : Int) : bitsOf .and .i64 n 255 % 256 = n % 256 := by rw [and_255]; omega
theorem byte0 (l : Int) : l % 256 = byteF l 0 := by simp [byteF, shr_eq]
theorem byte1 (l : Int) : shrOf .i64 l 8 % 256 = byteF l 1 := rfl
theorem byte2 (l : Int) : shrOf .i64 (shrOf .i64 l 8) 8 % 256 = byteF l 2 := by rw [shr8 l (by omega) (by rfl : (16 : Int) = 8 + 8)]; rfl
theorem byte3 (l : Int) : shrOf .i64 (shrOf .i64 (shrOf .i64 l 8) 8) 8 % 256 = byteF l 3 := by rw [shr8 l (by omega) (by rfl : (16 : Int) = 8 + 8), shr8 l (by omega) (by rfl : (24 : Int) = 16 + 8)]; rfl
theorem b0F (l : Int) : byteF l 0 = l % 256 := (byte0 l).symm
theorem b1F (l : Int) : byteF l 1 = shrOf .i64 l 8 % 256 := (byte1 l).symm
theorem b2F (l : Int) : byteF l 2 = shrOf .i64 (shrOf .i64 l 8) 8 % 256 := (byte2 l).symm
theorem b3F (l : Int) : byteF l 3 = shrOf .i64 (shrOf .i64 (shrOf .i64 l 8) 8) 8 % 256 := (byte3 l).symm
theorem refBits_v {e b : Int} (he : enc e) (hb : bitsF e = b) {H : AHeap} {K : CK} (h : K (.returned (.tuple #[iv b, iv 0])) H) : callS P (fnV 11) [iv e] H K := by
  subst hb
  exact refBits_t he h
theorem intK_div {a v : Int} {K : Int → Prop} (hv : a.tdiv 8 = v) (hr : -9223372036854775808 ≤ v ∧ v ≤ 9223372036854775807) (hk : K v) : intK .i64 (a.tdiv 8) K := by
  subst hv
  exact intK_in hr hk
theorem intK_eq {a v : Int} {K : Int → Prop} (hv : a = v) (hr : -9223372036854775808 ≤ v ∧ v ≤ 9223372036854775807) (hk : K v) : intK .i64 a K := by
  subst hv
  exact intK_in hr hk
theorem rngN {n i : Nat} (h : n ≤ i) (hi : i ≤ 1000000) : -9223372036854775808 ≤ (n : Int) ∧ (n : Int) ≤ 9223372036854775807 := by omega
theorem written_c {e l : Int} (he : enc e) (hr : -2147483648 ≤ l ∧ l ≤ 2147483648) {H : AHeap} {K : CK} (h : K (.returned (.string (bstr (putL e l)))) H) : callS P (fnV 88) [iv e, iv l] H K := by
  refine callS_forget ?_
  rcases enc_cases he with rfl | rfl | rfl | rfl | rfl | rfl | rfl | rfl
  · skip
    refine callS_walk tt_ok Try.func88 rfl (by kernel_rfl) ?_
    conv => whnf
    repeat' ((conv => whnf); first | refine refBits_v he (b := 8) rfl ?_ | (refine intK_div (a := 8) (v := 1) rfl ?_ ?_; (· omega)) | refine loopS_round tt_ok ?_ | refine intK_u8 ?_ | ((first | (apply vB; (case h => with_reducible assumption)) | (apply vA; (case h => with_reducible assumption)) | (apply vC; (case h => with_reducible assumption)) | (apply vF; (case h => with_reducible assumption))); (case hk => exact kpA); (case he => omega)) | ((first | (apply vI; (case h => with_reducible assumption)) | (apply vG; (case h => with_reducible assumption)) | (apply vK; (case h => with_reducible assumption))); (case hk => exact kpA); (case he => omega); (case hp => omega); (case' g => intro hr_ hc_)) | ((first | (apply vJ; (case h => with_reducible assumption)) | (apply vH; (case h => with_reducible assumption)) | (apply vL; (case h => with_reducible assumption))); (case hk => exact kpA); (case he => omega); (case' g => intro hr_ hc_)) | (apply drawS_auto mixed tt_ok; (· kernel_rfl)) | apply zZ | apply yA | apply yB | ((first | apply zA | apply zC | apply zE | apply zG); (· with_reducible assumption)) | ((first | apply zB | apply zD | apply zF | apply zH); (· with_reducible assumption)) | apply zM | apply zN | apply zO | apply zP | apply zQ | apply zR | apply zS | apply zT | apply zU | (apply zV; (· omega)) | (apply zW; (· omega)) | (apply zX; (· (first | omega | (dsimp only; omega)))) | (apply zY; (try (apply zY; apply zX; (· omega))); apply zX; (· omega); apply zX; (· (first | omega | (dsimp only; omega)))) | ((first | apply yJ | apply yK | apply yL | apply yM | apply yN | apply yO); (· exact hgA); (· exact hsA)) | (apply yNP; (· exact hgA); (· exact hsA)) | ((first | apply zA | apply zC | apply zE | apply zG); (· omega)) | ((first | apply zB | apply zD | apply zF | apply zH); (· omega)) | ((first | apply zI | apply zK); (· with_reducible assumption)) | ((first | apply zJ | apply zL); (· with_reducible assumption)) | ((first | apply xA | apply xC | apply xE | apply xG); (· first | assumption | rfl)) | ((first | apply xB | apply xD | apply xF | apply xH); (· first | assumption | kernel_rfl)) | fail)
    conv => whnf
    refine ⟨leA, _, rfl, rfl, (congrArg (fun s => K (.returned (.string s)) H) ?_).mpr h⟩
    exact congrArg strV (by simp [putL, and_u8, b0F, b1F, b2F, b3F])
  · skip
    refine callS_walk tt_ok Try.func88 rfl (by kernel_rfl) ?_
    conv => whnf
    repeat' ((conv => whnf); first | refine refBits_v he (b := 8) rfl ?_ | (refine intK_div (a := 8) (v := 1) rfl ?_ ?_; (· omega)) | refine loopS_round tt_ok ?_ | refine intK_u8 ?_ | ((first | (apply vB; (case h => with_reducible assumption)) | (apply vA; (case h => with_reducible assumption)) | (apply vC; (case h => with_reducible assumption)) | (apply vF; (case h => with_reducible assumption))); (case hk => exact kpA); (case he => omega)) | ((first | (apply vI; (case h => with_reducible assumption)) | (apply vG; (case h => with_reducible assumption)) | (apply vK; (case h => with_reducible assumption))); (case hk => exact kpA); (case he => omega); (case hp => omega); (case' g => intro hr_ hc_)) | ((first | (apply vJ; (case h => with_reducible assumption)) | (apply vH; (case h => with_reducible assumption)) | (apply vL; (case h => with_reducible assumption))); (case hk => exact kpA); (case he => omega); (case' g => intro hr_ hc_)) | (apply drawS_auto mixed tt_ok; (· kernel_rfl)) | apply zZ | apply yA | apply yB | ((first | apply zA | apply zC | apply zE | apply zG); (· with_reducible assumption)) | ((first | apply zB | apply zD | apply zF | apply zH); (· with_reducible assumption)) | apply zM | apply zN | apply zO | apply zP | apply zQ | apply zR | apply zS | apply zT | apply zU | (apply zV; (· omega)) | (apply zW; (· omega)) | (apply zX; (· (first | omega | (dsimp only; omega)))) | (apply zY; (try (apply zY; apply zX; (· omega))); apply zX; (· omega); apply zX; (· (first | omega | (dsimp only; omega)))) | ((first | apply yJ | apply yK | apply yL | apply yM | apply yN | apply yO); (· exact hgA); (· exact hsA)) | (apply yNP; (· exact hgA); (· exact hsA)) | ((first | apply zA | apply zC | apply zE | apply zG); (· omega)) | ((first | apply zB | apply zD | apply zF | apply zH); (· omega)) | ((first | apply zI | apply zK); (· with_reducible assumption)) | ((first | apply zJ | apply zL); (· with_reducible assumption)) | ((first | apply xA | apply xC | apply xE | apply xG); (· first | assumption | rfl)) | ((first | apply xB | apply xD | apply xF | apply xH); (· first | assumption | kernel_rfl)) | fail)
    conv => whnf
    refine ⟨leA, _, rfl, rfl, (congrArg (fun s => K (.returned (.string s)) H) ?_).mpr h⟩
    exact congrArg strV (by simp [putL, and_u8, b0F, b1F, b2F, b3F])
  · skip
    refine callS_walk tt_ok Try.func88 rfl (by kernel_rfl) ?_
    conv => whnf
    repeat' ((conv => whnf); first | refine refBits_v he (b := 16) rfl ?_ | (refine intK_div (a := 16) (v := 2) rfl ?_ ?_; (· omega)) | refine loopS_round tt_ok ?_ | refine intK_u8 ?_ | ((first | (apply vB; (case h => with_reducible assumption)) | (apply vA; (case h => with_reducible assumption)) | (apply vC; (case h => with_reducible assumption)) | (apply vF; (case h => with_reducible assumption))); (case hk => exact kpA); (case he => omega)) | ((first | (apply vI; (case h => with_reducible assumption)) | (apply vG; (case h => with_reducible assumption)) | (apply vK; (case h => with_reducible assumption))); (case hk => exact kpA); (case he => omega); (case hp => omega); (case' g => intro hr_ hc_)) | ((first | (apply vJ; (case h => with_reducible assumption)) | (apply vH; (case h => with_reducible assumption)) | (apply vL; (case h => with_reducible assumption))); (case hk => exact kpA); (case he => omega); (case' g => intro hr_ hc_)) | (apply drawS_auto mixed tt_ok; (· kernel_rfl)) | apply zZ | apply yA | apply yB | ((first | apply zA | apply zC | apply zE | apply zG); (· with_reducible assumption)) | ((first | apply zB | apply zD | apply zF | apply zH); (· with_reducible assumption)) | apply zM | apply zN | apply zO | apply zP | apply zQ | apply zR | apply zS | apply zT | apply zU | (apply zV; (· omega)) | (apply zW; (· omega)) | (apply zX; (· (first | omega | (dsimp only; omega)))) | (apply zY; (try (apply zY; apply zX; (· omega))); apply zX; (· omega); apply zX; (· (first | omega | (dsimp only; omega)))) | ((first | apply yJ | apply yK | apply yL | apply yM | apply yN | apply yO); (· exact hgA); (· exact hsA)) | (apply yNP; (· exact hgA); (· exact hsA)) | ((first | apply zA | apply zC | apply zE | apply zG); (· omega)) | ((first | apply zB | apply zD | apply zF | apply zH); (· omega)) | ((first | apply zI | apply zK); (· with_reducible assumption)) | ((first | apply zJ | apply zL); (· with_reducible assumption)) | ((first | apply xA | apply xC | apply xE | apply xG); (· first | assumption | rfl)) | ((first | apply xB | apply xD | apply xF | apply xH); (· first | assumption | kernel_rfl)) | fail)
    conv => whnf
    refine ⟨leA, _, rfl, rfl, (congrArg (fun s => K (.returned (.string s)) H) ?_).mpr h⟩
    exact congrArg strV (by simp [putL, and_u8, b0F, b1F, b2F, b3F])
  · skip
    refine callS_walk tt_ok Try.func88 rfl (by kernel_rfl) ?_
    conv => whnf
    repeat' ((conv => whnf); first | refine refBits_v he (b := 16) rfl ?_ | (refine intK_div (a := 16) (v := 2) rfl ?_ ?_; (· omega)) | refine loopS_round tt_ok ?_ | refine intK_u8 ?_ | ((first | (apply vB; (case h => with_reducible assumption)) | (apply vA; (case h => with_reducible assumption)) | (apply vC; (case h => with_reducible assumption)) | (apply vF; (case h => with_reducible assumption))); (case hk => exact kpA); (case he => omega)) | ((first | (apply vI; (case h => with_reducible assumption)) | (apply vG; (case h => with_reducible assumption)) | (apply vK; (case h => with_reducible assumption))); (case hk => exact kpA); (case he => omega); (case hp => omega); (case' g => intro hr_ hc_)) | ((first | (apply vJ; (case h => with_reducible assumption)) | (apply vH; (case h => with_reducible assumption)) | (apply vL; (case h => with_reducible assumption))); (case hk => exact kpA); (case he => omega); (case' g => intro hr_ hc_)) | (apply drawS_auto mixed tt_ok; (· kernel_rfl)) | apply zZ | apply yA | apply yB | ((first | apply zA | apply zC | apply zE | apply zG); (· with_reducible assumption)) | ((first | apply zB | apply zD | apply zF | apply zH); (· with_reducible assumption)) | apply zM | apply zN | apply zO | apply zP | apply zQ | apply zR | apply zS | apply zT | apply zU | (apply zV; (· omega)) | (apply zW; (· omega)) | (apply zX; (· (first | omega | (dsimp only; omega)))) | (apply zY; (try (apply zY; apply zX; (· omega))); apply zX; (· omega); apply zX; (· (first | omega | (dsimp only; omega)))) | ((first | apply yJ | apply yK | apply yL | apply yM | apply yN | apply yO); (· exact hgA); (· exact hsA)) | (apply yNP; (· exact hgA); (· exact hsA)) | ((first | apply zA | apply zC | apply zE | apply zG); (· omega)) | ((first | apply zB | apply zD | apply zF | apply zH); (· omega)) | ((first | apply zI | apply zK); (· with_reducible assumption)) | ((first | apply zJ | apply zL); (· with_reducible assumption)) | ((first | apply xA | apply xC | apply xE | apply xG); (· first | assumption | rfl)) | ((first | apply xB | apply xD | apply xF | apply xH); (· first | assumption | kernel_rfl)) | fail)
    conv => whnf
    refine ⟨leA, _, rfl, rfl, (congrArg (fun s => K (.returned (.string s)) H) ?_).mpr h⟩
    exact congrArg strV (by simp [putL, and_u8, b0F, b1F, b2F, b3F])
  · skip
    refine callS_walk tt_ok Try.func88 rfl (by kernel_rfl) ?_
    conv => whnf
    repeat' ((conv => whnf); first | refine refBits_v he (b := 24) rfl ?_ | (refine intK_div (a := 24) (v := 3) rfl ?_ ?_; (· omega)) | refine loopS_round tt_ok ?_ | refine intK_u8 ?_ | ((first | (apply vB; (case h => with_reducible assumption)) | (apply vA; (case h => with_reducible assumption)) | (apply vC; (case h => with_reducible assumption)) | (apply vF; (case h => with_reducible assumption))); (case hk => exact kpA); (case he => omega)) | ((first | (apply vI; (case h => with_reducible assumption)) | (apply vG; (case h => with_reducible assumption)) | (apply vK; (case h => with_reducible assumption))); (case hk => exact kpA); (case he => omega); (case hp => omega); (case' g => intro hr_ hc_)) | ((first | (apply vJ; (case h => with_reducible assumption)) | (apply vH; (case h => with_reducible assumption)) | (apply vL; (case h => with_reducible assumption))); (case hk => exact kpA); (case he => omega); (case' g => intro hr_ hc_)) | (apply drawS_auto mixed tt_ok; (· kernel_rfl)) | apply zZ | apply yA | apply yB | ((first | apply zA | apply zC | apply zE | apply zG); (· with_reducible assumption)) | ((first | apply zB | apply zD | apply zF | apply zH); (· with_reducible assumption)) | apply zM | apply zN | apply zO | apply zP | apply zQ | apply zR | apply zS | apply zT | apply zU | (apply zV; (· omega)) | (apply zW; (· omega)) | (apply zX; (· (first | omega | (dsimp only; omega)))) | (apply zY; (try (apply zY; apply zX; (· omega))); apply zX; (· omega); apply zX; (· (first | omega | (dsimp only; omega)))) | ((first | apply yJ | apply yK | apply yL | apply yM | apply yN | apply yO); (· exact hgA); (· exact hsA)) | (apply yNP; (· exact hgA); (· exact hsA)) | ((first | apply zA | apply zC | apply zE | apply zG); (· omega)) | ((first | apply zB | apply zD | apply zF | apply zH); (· omega)) | ((first | apply zI | apply zK); (· with_reducible assumption)) | ((first | apply zJ | apply zL); (· with_reducible assumption)) | ((first | apply xA | apply xC | apply xE | apply xG); (· first | assumption | rfl)) | ((first | apply xB | apply xD | apply xF | apply xH); (· first | assumption | kernel_rfl)) | fail)
    conv => whnf
    refine ⟨leA, _, rfl, rfl, (congrArg (fun s => K (.returned (.string s)) H) ?_).mpr h⟩
    exact congrArg strV (by simp [putL, and_u8, b0F, b1F, b2F, b3F])
  · skip
    refine callS_walk tt_ok Try.func88 rfl (by kernel_rfl) ?_
    conv => whnf
    repeat' ((conv => whnf); first | refine refBits_v he (b := 24) rfl ?_ | (refine intK_div (a := 24) (v := 3) rfl ?_ ?_; (· omega)) | refine loopS_round tt_ok ?_ | refine intK_u8 ?_ | ((first | (apply vB; (case h => with_reducible assumption)) | (apply vA; (case h => with_reducible assumption)) | (apply vC; (case h => with_reducible assumption)) | (apply vF; (case h => with_reducible assumption))); (case hk => exact kpA); (case he => omega)) | ((first | (apply vI; (case h => with_reducible assumption)) | (apply vG; (case h => with_reducible assumption)) | (apply vK; (case h => with_reducible assumption))); (case hk => exact kpA); (case he => omega); (case hp => omega); (case' g => intro hr_ hc_)) | ((first | (apply vJ; (case h => with_reducible assumption)) | (apply vH; (case h => with_reducible assumption)) | (apply vL; (case h => with_reducible assumption))); (case hk => exact kpA); (case he => omega); (case' g => intro hr_ hc_)) | (apply drawS_auto mixed tt_ok; (· kernel_rfl)) | apply zZ | apply yA | apply yB | ((first | apply zA | apply zC | apply zE | apply zG); (· with_reducible assumption)) | ((first | apply zB | apply zD | apply zF | apply zH); (· with_reducible assumption)) | apply zM | apply zN | apply zO | apply zP | apply zQ | apply zR | apply zS | apply zT | apply zU | (apply zV; (· omega)) | (apply zW; (· omega)) | (apply zX; (· (first | omega | (dsimp only; omega)))) | (apply zY; (try (apply zY; apply zX; (· omega))); apply zX; (· omega); apply zX; (· (first | omega | (dsimp only; omega)))) | ((first | apply yJ | apply yK | apply yL | apply yM | apply yN | apply yO); (· exact hgA); (· exact hsA)) | (apply yNP; (· exact hgA); (· exact hsA)) | ((first | apply zA | apply zC | apply zE | apply zG); (· omega)) | ((first | apply zB | apply zD | apply zF | apply zH); (· omega)) | ((first | apply zI | apply zK); (· with_reducible assumption)) | ((first | apply zJ | apply zL); (· with_reducible assumption)) | ((first | apply xA | apply xC | apply xE | apply xG); (· first | assumption | rfl)) | ((first | apply xB | apply xD | apply xF | apply xH); (· first | assumption | kernel_rfl)) | fail)
    conv => whnf
    refine ⟨leA, _, rfl, rfl, (congrArg (fun s => K (.returned (.string s)) H) ?_).mpr h⟩
    exact congrArg strV (by simp [putL, and_u8, b0F, b1F, b2F, b3F])
  · skip
    refine callS_walk tt_ok Try.func88 rfl (by kernel_rfl) ?_
    conv => whnf
    repeat' ((conv => whnf); first | refine refBits_v he (b := 32) rfl ?_ | (refine intK_div (a := 32) (v := 4) rfl ?_ ?_; (· omega)) | refine loopS_round tt_ok ?_ | refine intK_u8 ?_ | ((first | (apply vB; (case h => with_reducible assumption)) | (apply vA; (case h => with_reducible assumption)) | (apply vC; (case h => with_reducible assumption)) | (apply vF; (case h => with_reducible assumption))); (case hk => exact kpA); (case he => omega)) | ((first | (apply vI; (case h => with_reducible assumption)) | (apply vG; (case h => with_reducible assumption)) | (apply vK; (case h => with_reducible assumption))); (case hk => exact kpA); (case he => omega); (case hp => omega); (case' g => intro hr_ hc_)) | ((first | (apply vJ; (case h => with_reducible assumption)) | (apply vH; (case h => with_reducible assumption)) | (apply vL; (case h => with_reducible assumption))); (case hk => exact kpA); (case he => omega); (case' g => intro hr_ hc_)) | (apply drawS_auto mixed tt_ok; (· kernel_rfl)) | apply zZ | apply yA | apply yB | ((first | apply zA | apply zC | apply zE | apply zG); (· with_reducible assumption)) | ((first | apply zB | apply zD | apply zF | apply zH); (· with_reducible assumption)) | apply zM | apply zN | apply zO | apply zP | apply zQ | apply zR | apply zS | apply zT | apply zU | (apply zV; (· omega)) | (apply zW; (· omega)) | (apply zX; (· (first | omega | (dsimp only; omega)))) | (apply zY; (try (apply zY; apply zX; (· omega))); apply zX; (· omega); apply zX; (· (first | omega | (dsimp only; omega)))) | ((first | apply yJ | apply yK | apply yL | apply yM | apply yN | apply yO); (· exact hgA); (· exact hsA)) | (apply yNP; (· exact hgA); (· exact hsA)) | ((first | apply zA | apply zC | apply zE | apply zG); (· omega)) | ((first | apply zB | apply zD | apply zF | apply zH); (· omega)) | ((first | apply zI | apply zK); (· with_reducible assumption)) | ((first | apply zJ | apply zL); (· with_reducible assumption)) | ((first | apply xA | apply xC | apply xE | apply xG); (· first | assumption | rfl)) | ((first | apply xB | apply xD | apply xF | apply xH); (· first | assumption | kernel_rfl)) | fail)
    conv => whnf
    refine ⟨leA, _, rfl, rfl, (congrArg (fun s => K (.returned (.string s)) H) ?_).mpr h⟩
    exact congrArg strV (by simp [putL, and_u8, b0F, b1F, b2F, b3F])
  · skip
    refine callS_walk tt_ok Try.func88 rfl (by kernel_rfl) ?_
    conv => whnf
    repeat' ((conv => whnf); first | refine refBits_v he (b := 32) rfl ?_ | (refine intK_div (a := 32) (v := 4) rfl ?_ ?_; (· omega)) | refine loopS_round tt_ok ?_ | refine intK_u8 ?_ | ((first | (apply vB; (case h => with_reducible assumption)) | (apply vA; (case h => with_reducible assumption)) | (apply vC; (case h => with_reducible assumption)) | (apply vF; (case h => with_reducible assumption))); (case hk => exact kpA); (case he => omega)) | ((first | (apply vI; (case h => with_reducible assumption)) | (apply vG; (case h => with_reducible assumption)) | (apply vK; (case h => with_reducible assumption))); (case hk => exact kpA); (case he => omega); (case hp => omega); (case' g => intro hr_ hc_)) | ((first | (apply vJ; (case h => with_reducible assumption)) | (apply vH; (case h => with_reducible assumption)) | (apply vL; (case h => with_reducible assumption))); (case hk => exact kpA); (case he => omega); (case' g => intro hr_ hc_)) | (apply drawS_auto mixed tt_ok; (· kernel_rfl)) | apply zZ | apply yA | apply yB | ((first | apply zA | apply zC | apply zE | apply zG); (· with_reducible assumption)) | ((first | apply zB | apply zD | apply zF | apply zH); (· with_reducible assumption)) | apply zM | apply zN | apply zO | apply zP | apply zQ | apply zR | apply zS | apply zT | apply zU | (apply zV; (· omega)) | (apply zW; (· omega)) | (apply zX; (· (first | omega | (dsimp only; omega)))) | (apply zY; (try (apply zY; apply zX; (· omega))); apply zX; (· omega); apply zX; (· (first | omega | (dsimp only; omega)))) | ((first | apply yJ | apply yK | apply yL | apply yM | apply yN | apply yO); (· exact hgA); (· exact hsA)) | (apply yNP; (· exact hgA); (· exact hsA)) | ((first | apply zA | apply zC | apply zE | apply zG); (· omega)) | ((first | apply zB | apply zD | apply zF | apply zH); (· omega)) | ((first | apply zI | apply zK); (· with_reducible assumption)) | ((first | apply zJ | apply zL); (· with_reducible assumption)) | ((first | apply xA | apply xC | apply xE | apply xG); (· first | assumption | rfl)) | ((first | apply xB | apply xD | apply xF | apply xH); (· first | assumption | kernel_rfl)) | fail)
    conv => whnf
    refine ⟨leA, _, rfl, rfl, (congrArg (fun s => K (.returned (.string s)) H) ?_).mpr h⟩
    exact congrArg strV (by simp [putL, and_u8, b0F, b1F, b2F, b3F])
def wrS (e : Int) (m : List (List Int)) (pl : Bool) : Nat → ByteArray
  | 0 => .empty
  | n + 1 => wrS e m pl n ++ bstr (putL e (at2 m (pc m.length (framesB m) pl n) (pf m.length (framesB m) pl n)))
theorem bstr_len (bs : List Int) : (bstr bs).size = bs.length := by simp [bstr, strV, ByteArray.size]
def encM (e : Int) (pl : Bool) (m : List (List Int)) (n : Nat) : List Int := ((List.range n).map fun i => putL e (at2 m (pc m.length (framesB m) pl i) (pf m.length (framesB m) pl i))).flatten
theorem encM_succ (e : Int) (pl : Bool) (m : List (List Int)) (n : Nat) : encM e pl m (n + 1) = encM e pl m n ++ putL e (at2 m (pc m.length (framesB m) pl n) (pf m.length (framesB m) pl n)) := by
  simp [encM, List.range_succ]
theorem encM_len (e : Int) (pl : Bool) (m : List (List Int)) : ∀ n, (encM e pl m n).length ≤ 4 * n
  | 0 => by simp [encM]
  | n + 1 => by
    have := encM_len e pl m n
    have h2 := putL_len (e := e) (l := at2 m (pc m.length (framesB m) pl n) (pf m.length (framesB m) pl n))
    rw [encM_succ, List.length_append]
    omega
theorem laid_c {e : Int} (he : enc e) {pl : Bool} {p : Option Addr} {c : Nat} {m : List (List Int)} {H : AHeap} {K : CK} (hm : Mat H p m) (hC : 1 ≤ m.length ∧ m.length ≤ 8) (hF : framesB m ≤ 4096) (hR : ∀ r ∈ m, r.length = framesB m) (hv : ∀ r ∈ m, ∀ x ∈ r, -2147483648 ≤ x ∧ x ≤ 2147483648)
    (h : K (.returned (.string (bstr (encM e pl m (m.length * framesB m))))) H) : callS P (fnV 70) [iv e, .bool pl, .slice p m.length c] H K := by
  have hb0 : 0 < m.length := hC.1
  have hfr := frames0 hb0
  rw [hfr] at hF h
  have hCN : m[0].length * m.length ≤ 4096 * 8 := Nat.mul_le_mul hF hC.2
  have hcast : (m[0].length : Int) * (m.length : Int) = ((m[0].length * m.length : Nat) : Int) := by push_cast; rfl
  have hcom : m[0].length * m.length = m.length * m[0].length := Nat.mul_comm _ _
  rw [← hcom] at h
  obtain ⟨i0, off, rfl⟩ := hm.at hb0
  refine callS_walk tt_ok Try.func70 rfl (by kernel_rfl) ?_
  conv => whnf
  repeat' ((conv => whnf); first | ((first | (apply vB; (case h => with_reducible assumption)) | (apply vA; (case h => with_reducible assumption)) | (apply vC; (case h => with_reducible assumption))); (case hk => exact kpA); (case he => omega)) | ((first | (apply vI; (case h => with_reducible assumption)) | (apply vG; (case h => with_reducible assumption)) | (apply vK; (case h => with_reducible assumption))); (case hk => exact kpA); (case he => omega); (case hp => omega); (case' g => intro hr_ hc_)) | ((first | (apply vJ; (case h => with_reducible assumption)) | (apply vH; (case h => with_reducible assumption)) | (apply vL; (case h => with_reducible assumption))); (case hk => exact kpA); (case he => omega); (case' g => intro hr_ hc_)) | (apply drawS_auto mixed tt_ok; (· kernel_rfl)) | apply zZ | apply yA | apply yB | ((first | apply zA | apply zC | apply zE | apply zG); (· with_reducible assumption)) | ((first | apply zB | apply zD | apply zF | apply zH); (· with_reducible assumption)) | apply zM | apply zN | apply zO | apply zP | apply zQ | apply zR | apply zS | apply zT | apply zU | (apply zV; (· omega)) | (apply zW; (· omega)) | (apply zX; (· (first | omega | (dsimp only; omega)))) | (apply zY; (try (apply zY; apply zX; (· omega))); apply zX; (· omega); apply zX; (· (first | omega | (dsimp only; omega)))) | ((first | apply yJ | apply yK | apply yL | apply yM | apply yN | apply yO); (· exact hgA); (· exact hsA)) | (apply yNP; (· exact hgA); (· exact hsA)) | ((first | apply zA | apply zC | apply zE | apply zG); (· omega)) | ((first | apply zB | apply zD | apply zF | apply zH); (· omega)) | ((first | apply zI | apply zK); (· with_reducible assumption)) | ((first | apply zJ | apply zL); (· with_reducible assumption)) | ((first | apply xA | apply xC | apply xE | apply xG); (· first | assumption | rfl)) | ((first | apply xB | apply xD | apply xF | apply xH); (· first | assumption | kernel_rfl)) | fail)
  conv => whnf
  refine loopS_mask tt_ok (fun (i : Nat) => [.p (iv e), .p (.bool pl), .p (.slice (some ⟨i0, off, none⟩) m.length c), .w, .w, .w, .w, .p (iv (m[0].length : Nat)), .p (.string (bstr (encM e pl m i))), .p (iv (i : Nat)), .w, .w, .w, .w, .w, .w, .w, .w, .w, .w, .w, .w, .w, .w, .w, .w, .w, .w, .w, .w, .w, .w, .w, .w, .w, .w, .w, .w, .w, .w, .w, .w, .w, .w, .w, .w, .w, .w, .w, .w, .w, .w, .w, .w]) (fun (i : Nat) => H) (fun (i : Nat) => i ≤ m[0].length * m.length) (fun (i : Nat) => m[0].length * m.length - i) (0) (by omega) ?_ (fun i hi => ?_)
  · conv => whnf
    refine weakH_of (HW.refl _) ?_
    repeat' (first | exact WT.nil | refine WT.same ?_ | refine WT.drop ?_ | refine WT.int (by omega) ?_ | refine WT.eq (by assumption) ?_ | refine WT.bl (by first | assumption | (symm; assumption)) ?_ | refine WT.vv (by assumption) ?_)
  by_cases hlt : i < m[0].length * m.length
  · have hC0 : 0 < m[0].length := by
      rcases Nat.eq_zero_or_pos m[0].length with h0 | h1
      · rw [h0] at hlt; omega
      · exact h1
    have e1 : (i : Int).tmod (m.length : Int) = ((i % m.length : Nat) : Int) := by rw [Int.tmod_eq_emod_of_nonneg (by omega), Int.natCast_emod]
    have e2 : (i : Int).tdiv (m.length : Int) = ((i / m.length : Nat) : Int) := by rw [Int.tdiv_eq_ediv_of_nonneg (by omega), Int.natCast_ediv]
    have e3 : (i : Int).tmod (m[0].length : Int) = ((i % m[0].length : Nat) : Int) := by rw [Int.tmod_eq_emod_of_nonneg (by omega), Int.natCast_emod]
    have e4 : (i : Int).tdiv (m[0].length : Int) = ((i / m[0].length : Nat) : Int) := by rw [Int.tdiv_eq_ediv_of_nonneg (by omega), Int.natCast_ediv]
    have d1 : i / m.length ≤ i := Nat.div_le_self _ _
    have d2 : i / m[0].length ≤ i := Nat.div_le_self _ _
    have hen := encM_succ e pl m i
    have hlen := encM_len e pl m i
    have hbl := bstr_len (encM e pl m i)
    have hlp := putL_len (e := e) (l := at2 m (pc m.length m[0].length pl i) (pf m.length m[0].length pl i))
    have hlp2 := bstr_len (putL e (at2 m (pc m.length m[0].length pl i) (pf m.length m[0].length pl i)))
    rw [hfr] at hen
    have hpc := pc_lt (pl := pl) (N := m[0].length) hb0 (hcom ▸ hlt)
    have hpf := pf_lt (C := m.length) (pl := pl) (hcom ▸ hlt)
    have hri := hR m[pc m.length m[0].length pl i] (List.getElem_mem _)
    rw [hfr] at hri
    have hx := hv m[pc m.length m[0].length pl i] (List.getElem_mem _) (m[pc m.length m[0].length pl i][pf m.length m[0].length pl i]'(by rw [hri]; exact hpf)) (List.getElem_mem _)
    rw [at2_eq hpc (by rw [hri]; exact hpf)] at hen hlp hlp2
    cases pl with
    | true =>
      simp only [pc, pf, if_true] at hen hlp hlp2 hpc hpf hri hx
      have d3 : i % m.length ≤ i := Nat.mod_le _ _
      have d4 : i % m[0].length ≤ i := Nat.mod_le _ _
      repeat' ((conv => whnf); first | refine intK_eq e1 (rngN d3 (by omega)) ?_ | refine intK_eq e2 (rngN d1 (by omega)) ?_ | refine intK_eq e3 (rngN d4 (by omega)) ?_ | refine intK_eq e4 (rngN d2 (by omega)) ?_ | refine written_c he hx ?_ | ((first | (apply vB; (case h => with_reducible assumption)) | (apply vA; (case h => with_reducible assumption)) | (apply vC; (case h => with_reducible assumption))); (case hk => exact kpA); (case he => omega)) | ((first | (apply vI; (case h => with_reducible assumption)) | (apply vG; (case h => with_reducible assumption)) | (apply vK; (case h => with_reducible assumption))); (case hk => exact kpA); (case he => omega); (case hp => omega); (case' g => intro hr_ hc_)) | ((first | (apply vJ; (case h => with_reducible assumption)) | (apply vH; (case h => with_reducible assumption)) | (apply vL; (case h => with_reducible assumption))); (case hk => exact kpA); (case he => omega); (case' g => intro hr_ hc_)) | (apply drawS_auto mixed tt_ok; (· kernel_rfl)) | apply zZ | apply yA | apply yB | ((first | apply zA | apply zC | apply zE | apply zG); (· with_reducible assumption)) | ((first | apply zB | apply zD | apply zF | apply zH); (· with_reducible assumption)) | apply zM | apply zN | apply zO | apply zP | apply zQ | apply zR | apply zS | apply zT | apply zU | (apply zV; (· omega)) | (apply zW; (· omega)) | (apply zX; (· (first | omega | (dsimp only; omega)))) | (apply zY; (try (apply zY; apply zX; (· omega))); apply zX; (· omega); apply zX; (· (first | omega | (dsimp only; omega)))) | ((first | apply yJ | apply yK | apply yL | apply yM | apply yN | apply yO); (· exact hgA); (· exact hsA)) | (apply yNP; (· exact hgA); (· exact hsA)) | ((first | apply zA | apply zC | apply zE | apply zG); (· omega)) | ((first | apply zB | apply zD | apply zF | apply zH); (· omega)) | ((first | apply zI | apply zK); (· with_reducible assumption)) | ((first | apply zJ | apply zL); (· with_reducible assumption)) | ((first | apply xA | apply xC | apply xE | apply xG); (· first | assumption | rfl)) | ((first | apply xB | apply xD | apply xF | apply xH); (· first | assumption | kernel_rfl)) | fail)
      conv => whnf
      rw [← (congrArg bstr hen).trans (bstr_append _ _)]
      refine ⟨i + 1, by omega, by omega, ?_⟩
      conv => whnf
      refine weakH_of (HW.refl _) ?_
      repeat' (first | exact WT.nil | refine WT.same ?_ | refine WT.drop ?_ | refine WT.int (by omega) ?_ | refine WT.eq (by assumption) ?_ | refine WT.bl (by first | assumption | (symm; assumption)) ?_ | refine WT.vv (by assumption) ?_)
    | false =>
      simp only [pc, pf, Bool.false_eq_true, if_false] at hen hlp hlp2 hpc hpf hri hx
      have d3 : i % m.length ≤ i := Nat.mod_le _ _
      have d4 : i % m[0].length ≤ i := Nat.mod_le _ _
      repeat' ((conv => whnf); first | refine intK_eq e1 (rngN d3 (by omega)) ?_ | refine intK_eq e2 (rngN d1 (by omega)) ?_ | refine intK_eq e3 (rngN d4 (by omega)) ?_ | refine intK_eq e4 (rngN d2 (by omega)) ?_ | refine written_c he hx ?_ | ((first | (apply vB; (case h => with_reducible assumption)) | (apply vA; (case h => with_reducible assumption)) | (apply vC; (case h => with_reducible assumption))); (case hk => exact kpA); (case he => omega)) | ((first | (apply vI; (case h => with_reducible assumption)) | (apply vG; (case h => with_reducible assumption)) | (apply vK; (case h => with_reducible assumption))); (case hk => exact kpA); (case he => omega); (case hp => omega); (case' g => intro hr_ hc_)) | ((first | (apply vJ; (case h => with_reducible assumption)) | (apply vH; (case h => with_reducible assumption)) | (apply vL; (case h => with_reducible assumption))); (case hk => exact kpA); (case he => omega); (case' g => intro hr_ hc_)) | (apply drawS_auto mixed tt_ok; (· kernel_rfl)) | apply zZ | apply yA | apply yB | ((first | apply zA | apply zC | apply zE | apply zG); (· with_reducible assumption)) | ((first | apply zB | apply zD | apply zF | apply zH); (· with_reducible assumption)) | apply zM | apply zN | apply zO | apply zP | apply zQ | apply zR | apply zS | apply zT | apply zU | (apply zV; (· omega)) | (apply zW; (· omega)) | (apply zX; (· (first | omega | (dsimp only; omega)))) | (apply zY; (try (apply zY; apply zX; (· omega))); apply zX; (· omega); apply zX; (· (first | omega | (dsimp only; omega)))) | ((first | apply yJ | apply yK | apply yL | apply yM | apply yN | apply yO); (· exact hgA); (· exact hsA)) | (apply yNP; (· exact hgA); (· exact hsA)) | ((first | apply zA | apply zC | apply zE | apply zG); (· omega)) | ((first | apply zB | apply zD | apply zF | apply zH); (· omega)) | ((first | apply zI | apply zK); (· with_reducible assumption)) | ((first | apply zJ | apply zL); (· with_reducible assumption)) | ((first | apply xA | apply xC | apply xE | apply xG); (· first | assumption | rfl)) | ((first | apply xB | apply xD | apply xF | apply xH); (· first | assumption | kernel_rfl)) | fail)
      conv => whnf
      rw [← (congrArg bstr hen).trans (bstr_append _ _)]
      refine ⟨i + 1, by omega, by omega, ?_⟩
      conv => whnf
      refine weakH_of (HW.refl _) ?_
      repeat' (first | exact WT.nil | refine WT.same ?_ | refine WT.drop ?_ | refine WT.int (by omega) ?_ | refine WT.eq (by assumption) ?_ | refine WT.bl (by first | assumption | (symm; assumption)) ?_ | refine WT.vv (by assumption) ?_)
  · have hin : i = m[0].length * m.length := by omega
    subst hin
    repeat' ((conv => whnf); first | ((first | (apply vB; (case h => with_reducible assumption)) | (apply vA; (case h => with_reducible assumption)) | (apply vC; (case h => with_reducible assumption))); (case hk => exact kpA); (case he => omega)) | ((first | (apply vI; (case h => with_reducible assumption)) | (apply vG; (case h => with_reducible assumption)) | (apply vK; (case h => with_reducible assumption))); (case hk => exact kpA); (case he => omega); (case hp => omega); (case' g => intro hr_ hc_)) | ((first | (apply vJ; (case h => with_reducible assumption)) | (apply vH; (case h => with_reducible assumption)) | (apply vL; (case h => with_reducible assumption))); (case hk => exact kpA); (case he => omega); (case' g => intro hr_ hc_)) | (apply drawS_auto mixed tt_ok; (· kernel_rfl)) | apply zZ | apply yA | apply yB | ((first | apply zA | apply zC | apply zE | apply zG); (· with_reducible assumption)) | ((first | apply zB | apply zD | apply zF | apply zH); (· with_reducible assumption)) | apply zM | apply zN | apply zO | apply zP | apply zQ | apply zR | apply zS | apply zT | apply zU | (apply zV; (· omega)) | (apply zW; (· omega)) | (apply zX; (· (first | omega | (dsimp only; omega)))) | (apply zY; (try (apply zY; apply zX; (· omega))); apply zX; (· omega); apply zX; (· (first | omega | (dsimp only; omega)))) | ((first | apply yJ | apply yK | apply yL | apply yM | apply yN | apply yO); (· exact hgA); (· exact hsA)) | (apply yNP; (· exact hgA); (· exact hsA)) | ((first | apply zA | apply zC | apply zE | apply zG); (· omega)) | ((first | apply zB | apply zD | apply zF | apply zH); (· omega)) | ((first | apply zI | apply zK); (· with_reducible assumption)) | ((first | apply zJ | apply zL); (· with_reducible assumption)) | ((first | apply xA | apply xC | apply xE | apply xG); (· first | assumption | rfl)) | ((first | apply xB | apply xD | apply xF | apply xH); (· first | assumption | kernel_rfl)) | fail)
    conv => whnf
    exact h
def mapM (g : Int → Int) (b : List (List Int)) : List (List Int) := b.map fun r => r.map g
theorem at2_mapM {g : Int → Int} (h0 : g 0 = 0) (b : List (List Int)) (i c : Nat) : at2 (mapM g b) i c = g (at2 b i c) := by
  unfold at2 mapM
  simp only [List.getD_eq_getElem?_getD, List.getElem?_map]
  cases h : b[i]? with
  | none => simp [h0]
  | some r =>
    simp only [Option.map_some, Option.getD_some, List.getElem?_map]
    cases h2 : r[c]? with
    | none => simp [h0]
    | some x => simp
theorem levF0 (e : Int) : levF e 0 = 0 := by
  have hm := maxF_bd e
  have hr : rnd 0 (unitF e) = 0 := by
    unfold unitF
    split
    · decide
    · decide
  unfold levF
  split
  · rfl
  · split
    · rfl
    · rw [hr]; omega
theorem mapM_len (g : Int → Int) (b : List (List Int)) : (mapM g b).length = b.length := by simp [mapM]
theorem mapM_frames (g : Int → Int) (b : List (List Int)) : framesB (mapM g b) = framesB b := by
  cases b with
  | nil => rfl
  | cons r b => simp [framesB, mapM]
theorem encM_map (e : Int) (pl : Bool) (b : List (List Int)) (n : Nat) : encM e pl (mapM (levF e) b) n = encN e pl b n := by
  unfold encM encN
  rw [mapM_len, mapM_frames]
  congr 1
  refine List.map_congr_left fun i _ => ?_
  rw [at2_mapM (levF0 e)]
theorem refEncode_c {e : Int} {pl : Bool} {p : Option Addr} {c : Nat} {b : List (List Int)} {H : AHeap} {K : CK} (hb : Mat H p b) (h : ∀ H', H.le H' → K (.returned (.tuple #[.string (encS e pl b), iv (encE e b)])) H') : callS P (fnV 44) [iv e, .bool pl, .slice p b.length c] H K := by
  unfold encS encE at h
  cases hv : blockB b with
  | false =>
    rw [if_neg (by rw [hv]; simp), if_neg (by rw [hv]; simp)] at h
    refine callS_walk tt_ok Try.func44 rfl (by kernel_rfl) ?_
    conv => whnf
    repeat' ((conv => whnf); first | (apply refValid_v; (· exact mtA); (· with_reducible assumption)) | ((first | (apply vB; (case h => with_reducible assumption)) | (apply vA; (case h => with_reducible assumption)) | (apply vC; (case h => with_reducible assumption))); (case hk => exact kpA); (case he => omega)) | ((first | (apply vI; (case h => with_reducible assumption)) | (apply vG; (case h => with_reducible assumption)) | (apply vK; (case h => with_reducible assumption))); (case hk => exact kpA); (case he => omega); (case hp => omega); (case' g => intro hr_ hc_)) | ((first | (apply vJ; (case h => with_reducible assumption)) | (apply vH; (case h => with_reducible assumption)) | (apply vL; (case h => with_reducible assumption))); (case hk => exact kpA); (case he => omega); (case' g => intro hr_ hc_)) | apply yA | apply yB | ((first | apply zA | apply zC | apply zE | apply zG); (· with_reducible assumption)) | ((first | apply zB | apply zD | apply zF | apply zH); (· with_reducible assumption)) | apply zM | apply zN | apply zO | apply zP | apply zQ | apply zR | apply zS | apply zT | apply zU | (apply zV; (· omega)) | (apply zW; (· omega)) | (apply zX; (· (first | omega | (dsimp only; omega)))) | (apply zY; (try (apply zY; apply zX; (· omega))); apply zX; (· omega); apply zX; (· (first | omega | (dsimp only; omega)))) | ((first | apply yJ | apply yK | apply yL | apply yM | apply yN | apply yO); (· exact hgA); (· exact hsA)) | (apply yNP; (· exact hgA); (· exact hsA)) | ((first | apply zA | apply zC | apply zE | apply zG); (· omega)) | ((first | apply zB | apply zD | apply zF | apply zH); (· omega)) | ((first | apply zI | apply zK); (· with_reducible assumption)) | ((first | apply zJ | apply zL); (· with_reducible assumption)) | ((first | apply xA | apply xC | apply xE | apply xG); (· first | assumption | rfl)) | ((first | apply xB | apply xD | apply xF | apply xH); (· first | assumption | kernel_rfl)) | fail)
    conv => whnf
    exact h _ leA
  | true =>
    rw [if_pos hv] at h
    by_cases he : enc e
    · rw [if_pos ⟨hv, he⟩, if_pos he] at h
      obtain ⟨⟨hb1, hb8⟩, hbr⟩ := blockB_rows hv
      have hb0 : 0 < b.length := hb1
      have hfr := frames0 hb0
      have hL4 := (hbr b[0] (List.getElem_mem _)).2.1
      obtain ⟨i0, off, rfl⟩ := hb.at hb0
      refine callS_walk tt_ok Try.func44 rfl (by kernel_rfl) ?_
      conv => whnf
      repeat' ((conv => whnf); first | (apply refValid_v; (· exact mtA); (· with_reducible assumption)) | refine refBits_t he ?_ | ((first | (apply vB; (case h => with_reducible assumption)) | (apply vA; (case h => with_reducible assumption)) | (apply vC; (case h => with_reducible assumption))); (case hk => exact kpA); (case he => omega)) | ((first | (apply vI; (case h => with_reducible assumption)) | (apply vG; (case h => with_reducible assumption)) | (apply vK; (case h => with_reducible assumption))); (case hk => exact kpA); (case he => omega); (case hp => omega); (case' g => intro hr_ hc_)) | ((first | (apply vJ; (case h => with_reducible assumption)) | (apply vH; (case h => with_reducible assumption)) | (apply vL; (case h => with_reducible assumption))); (case hk => exact kpA); (case he => omega); (case' g => intro hr_ hc_)) | apply yA | apply yB | ((first | apply zA | apply zC | apply zE | apply zG); (· with_reducible assumption)) | ((first | apply zB | apply zD | apply zF | apply zH); (· with_reducible assumption)) | apply zM | apply zN | apply zO | apply zP | apply zQ | apply zR | apply zS | apply zT | apply zU | (apply zV; (· omega)) | (apply zW; (· omega)) | (apply zX; (· (first | omega | (dsimp only; omega)))) | (apply zY; (try (apply zY; apply zX; (· omega))); apply zX; (· omega); apply zX; (· (first | omega | (dsimp only; omega)))) | ((first | apply yJ | apply yK | apply yL | apply yM | apply yN | apply yO); (· exact hgA); (· exact hsA)) | (apply yNP; (· exact hgA); (· exact hsA)) | ((first | apply zA | apply zC | apply zE | apply zG); (· omega)) | ((first | apply zB | apply zD | apply zF | apply zH); (· omega)) | ((first | apply zI | apply zK); (· with_reducible assumption)) | ((first | apply zJ | apply zL); (· with_reducible assumption)) | ((first | apply xA | apply xC | apply xE | apply xG); (· first | assumption | rfl)) | ((first | apply xB | apply xD | apply xF | apply xH); (· first | assumption | kernel_rfl)) | fail)
      conv => whnf
      refine loopS_mask tt_ok (fun (k : Nat × AHeap × Value) => [.p (iv e), .p (.bool pl), .p (.slice (some ⟨i0, off, none⟩) b.length c), .w, .w, .w, .w, .w, .w, .w, .p (k.2.2), .p (iv k.1), .w, .w, .w, .w, .w, .w, .w, .w, .w, .w, .w, .w, .w, .w, .w, .w, .w, .w, .w, .w, .w, .w, .w, .w, .w, .w, .w, .w, .w, .w, .w, .w, .w, .w, .w, .w, .w, .w, .w, .w, .w, .w, .w, .w, .w, .w, .w, .w]) (fun (k : Nat × AHeap × Value) => k.2.1) (fun (k : Nat × AHeap × Value) => k.1 ≤ b.length ∧ H.le k.2.1 ∧ OSl RRow k.2.1 H.size k.2.2 (mapM (levF e) (b.take k.1))) (fun (k : Nat × AHeap × Value) => b.length - k.1) (⟨0, H, .slice none 0 0⟩) (⟨by omega, AHeap.le.refl _, OSl.nil⟩) ?_ (fun k hk => ?_)
      · conv => whnf
        refine weakH_of (HW.refl _) ?_
        repeat' (first | exact WT.nil | refine WT.same ?_ | refine WT.drop ?_ | refine WT.int (by omega) ?_ | refine WT.eq (by assumption) ?_ | refine WT.bl (by first | assumption | (symm; assumption)) ?_ | refine WT.vv (by assumption) ?_)
      obtain ⟨k, H1, v⟩ := k
      obtain ⟨hk, hle1, hos⟩ := hk
      dsimp only at hk hle1 hos ⊢
      have hkp1 := hle1.kp
      have hs1 := hle1.size
      by_cases hlt : k < b.length
      · obtain ⟨_, hrl, hrb⟩ := hbr b[k] (List.getElem_mem _)
        repeat' ((conv => whnf); first | ((first | (apply vB; (case h => with_reducible assumption)) | (apply vA; (case h => with_reducible assumption)) | (apply vC; (case h => with_reducible assumption))); (case hk => exact kpA); (case he => omega)) | ((first | (apply vI; (case h => with_reducible assumption)) | (apply vG; (case h => with_reducible assumption)) | (apply vK; (case h => with_reducible assumption))); (case hk => exact kpA); (case he => omega); (case hp => omega); (case' g => intro hr_ hc_)) | ((first | (apply vJ; (case h => with_reducible assumption)) | (apply vH; (case h => with_reducible assumption)) | (apply vL; (case h => with_reducible assumption))); (case hk => exact kpA); (case he => omega); (case' g => intro hr_ hc_)) | apply yA | apply yB | ((first | apply zA | apply zC | apply zE | apply zG); (· with_reducible assumption)) | ((first | apply zB | apply zD | apply zF | apply zH); (· with_reducible assumption)) | apply zM | apply zN | apply zO | apply zP | apply zQ | apply zR | apply zS | apply zT | apply zU | (apply zV; (· omega)) | (apply zW; (· omega)) | (apply zX; (· (first | omega | (dsimp only; omega)))) | (apply zY; (try (apply zY; apply zX; (· omega))); apply zX; (· omega); apply zX; (· (first | omega | (dsimp only; omega)))) | ((first | apply yJ | apply yK | apply yL | apply yM | apply yN | apply yO); (· exact hgA); (· exact hsA)) | (apply yNP; (· exact hgA); (· exact hsA)) | ((first | apply zA | apply zC | apply zE | apply zG); (· omega)) | ((first | apply zB | apply zD | apply zF | apply zH); (· omega)) | ((first | apply zI | apply zK); (· with_reducible assumption)) | ((first | apply zJ | apply zL); (· with_reducible assumption)) | ((first | apply xA | apply xC | apply xE | apply xG); (· first | assumption | rfl)) | ((first | apply xB | apply xD | apply xF | apply xH); (· first | assumption | kernel_rfl)) | fail)
        conv => whnf
        refine loopS_mask tt_ok (fun (j : Nat × AHeap × Value) => [.p (iv e), .p (.bool pl), .p (.slice (some ⟨i0, off, none⟩) b.length c), .w, .w, .w, .w, .w, .w, .w, .p (v), .p (iv k), .p (j.2.2), .p (iv j.1), .w, .w, .w, .w, .w, .w, .w, .w, .w, .w, .w, .w, .w, .w, .w, .w, .w, .w, .w, .w, .w, .w, .w, .w, .w, .w, .w, .w, .w, .w, .w, .w, .w, .w, .w, .w, .w, .w, .w, .w, .w, .w, .w, .w, .w, .w]) (fun (j : Nat × AHeap × Value) => j.2.1) (fun (j : Nat × AHeap × Value) => j.1 ≤ b[k].length ∧ H1.le j.2.1 ∧ ORowV j.2.1 H1.size j.2.2 ((b[k].take j.1).map (levF e))) (fun (j : Nat × AHeap × Value) => b[k].length - j.1) (⟨0, H1, .slice none 0 0⟩) (⟨by omega, AHeap.le.refl _, .inl ⟨rfl, rfl⟩⟩) ?_ (fun j hj => ?_)
        · conv => whnf
          refine weakH_of (HW.refl _) ?_
          repeat' (first | exact WT.nil | refine WT.same ?_ | refine WT.drop ?_ | refine WT.int (by omega) ?_ | refine WT.eq (by assumption) ?_ | refine WT.bl (by first | assumption | (symm; assumption)) ?_ | refine WT.vv (by assumption) ?_)
        obtain ⟨j, H2, u⟩ := j
        obtain ⟨hj, hle2, hrow⟩ := hj
        dsimp only at hj hle2 hrow ⊢
        have hle12 := AHeap.le.trans hle1 hle2
        have hkp2 := hle12.kp
        have hs2 := hle2.size
        by_cases hlj : j < b[k].length
        · have hx := hrb b[k][j] (List.getElem_mem _)
          have hts : (b[k].take (j + 1)).map (levF e) = (b[k].take j).map (levF e) ++ [levF e b[k][j]] := by rw [take_succ_of hlj, List.map_append]; rfl
          have htl : ((b[k].take j).map (levF e)).length = j := by rw [List.length_map, List.length_take]; omega
          generalize hxs : (b[k].take j).map (levF e) = xs at hrow hts htl
          rcases hrow with ⟨rfl, hn0⟩ | ⟨o, rfl, ho, ho1, ho2⟩
          · skip
            repeat' ((conv => whnf); first | refine levelled_c he hx ?_ | ((first | (apply vB; (case h => with_reducible assumption)) | (apply vA; (case h => with_reducible assumption)) | (apply vC; (case h => with_reducible assumption))); (case hk => exact kpA); (case he => omega)) | ((first | (apply vI; (case h => with_reducible assumption)) | (apply vG; (case h => with_reducible assumption)) | (apply vK; (case h => with_reducible assumption))); (case hk => exact kpA); (case he => omega); (case hp => omega); (case' g => intro hr_ hc_)) | ((first | (apply vJ; (case h => with_reducible assumption)) | (apply vH; (case h => with_reducible assumption)) | (apply vL; (case h => with_reducible assumption))); (case hk => exact kpA); (case he => omega); (case' g => intro hr_ hc_)) | apply yA | apply yB | ((first | apply zA | apply zC | apply zE | apply zG); (· with_reducible assumption)) | ((first | apply zB | apply zD | apply zF | apply zH); (· with_reducible assumption)) | apply zM | apply zN | apply zO | apply zP | apply zQ | apply zR | apply zS | apply zT | apply zU | (apply zV; (· omega)) | (apply zW; (· omega)) | (apply zX; (· (first | omega | (dsimp only; omega)))) | (apply zY; (try (apply zY; apply zX; (· omega))); apply zX; (· omega); apply zX; (· (first | omega | (dsimp only; omega)))) | ((first | apply yJ | apply yK | apply yL | apply yM | apply yN | apply yO); (· exact hgA); (· exact hsA)) | (apply yNP; (· exact hgA); (· exact hsA)) | ((first | apply zA | apply zC | apply zE | apply zG); (· omega)) | ((first | apply zB | apply zD | apply zF | apply zH); (· omega)) | ((first | apply zI | apply zK); (· with_reducible assumption)) | ((first | apply zJ | apply zL); (· with_reducible assumption)) | ((first | apply xA | apply xC | apply xE | apply xG); (· first | assumption | rfl)) | ((first | apply xB | apply xD | apply xF | apply xH); (· first | assumption | kernel_rfl)) | fail)
            conv => whnf
            apply Exists.intro (j + 1, _, _)
            refine ⟨?inv, ?mu, ?wk⟩
            case wk =>
              conv => whnf
              refine weakH_of (HW.refl _) ?_
              repeat' (first | exact WT.nil | refine WT.same ?_ | refine WT.drop ?_ | refine WT.int (by omega) ?_ | refine WT.eq (by assumption) ?_ | refine WT.bl (by first | assumption | (symm; assumption)) ?_ | refine WT.vv (by assumption) ?_)
            case mu => first | omega | (dsimp only; omega)
            case inv => exact ⟨by omega, leA, by
              rw [hts, hn0]
              exact .inr ⟨_, rfl, hgA, hoA, hoA⟩⟩
          · rw [htl]
            repeat' ((conv => whnf); first | refine levelled_c he hx ?_ | ((first | (apply vB; (case h => with_reducible assumption)) | (apply vA; (case h => with_reducible assumption)) | (apply vC; (case h => with_reducible assumption))); (case hk => exact kpA); (case he => omega)) | ((first | (apply vI; (case h => with_reducible assumption)) | (apply vG; (case h => with_reducible assumption)) | (apply vK; (case h => with_reducible assumption))); (case hk => exact kpA); (case he => omega); (case hp => omega); (case' g => intro hr_ hc_)) | ((first | (apply vJ; (case h => with_reducible assumption)) | (apply vH; (case h => with_reducible assumption)) | (apply vL; (case h => with_reducible assumption))); (case hk => exact kpA); (case he => omega); (case' g => intro hr_ hc_)) | apply yA | apply yB | ((first | apply zA | apply zC | apply zE | apply zG); (· with_reducible assumption)) | ((first | apply zB | apply zD | apply zF | apply zH); (· with_reducible assumption)) | apply zM | apply zN | apply zO | apply zP | apply zQ | apply zR | apply zS | apply zT | apply zU | (apply zV; (· omega)) | (apply zW; (· omega)) | (apply zX; (· (first | omega | (dsimp only; omega)))) | (apply zY; (try (apply zY; apply zX; (· omega))); apply zX; (· omega); apply zX; (· (first | omega | (dsimp only; omega)))) | ((first | apply yJ | apply yK | apply yL | apply yM | apply yN | apply yO); (· exact hgA); (· exact hsA)) | (apply yNP; (· exact hgA); (· exact hsA)) | ((first | apply zA | apply zC | apply zE | apply zG); (· omega)) | ((first | apply zB | apply zD | apply zF | apply zH); (· omega)) | ((first | apply zI | apply zK); (· with_reducible assumption)) | ((first | apply zJ | apply zL); (· with_reducible assumption)) | ((first | apply xA | apply xC | apply xE | apply xG); (· first | assumption | rfl)) | ((first | apply xB | apply xD | apply xF | apply xH); (· first | assumption | kernel_rfl)) | fail)
            conv => whnf
            apply Exists.intro (j + 1, _, _)
            refine ⟨?inv, ?mu, ?wk⟩
            case wk =>
              conv => whnf
              refine weakH_of (HW.refl _) ?_
              repeat' (first | exact WT.nil | refine WT.same ?_ | refine WT.drop ?_ | refine WT.int (by omega) ?_ | refine WT.eq (by assumption) ?_ | refine WT.bl (by first | assumption | (symm; assumption)) ?_ | refine WT.vv (by assumption) ?_)
            case mu => first | omega | (dsimp only; omega)
            case inv => exact ⟨by omega, leA, by
              rw [hts]
              exact .inr ⟨_, by rw [List.length_append, htl]; rfl, by rw [List.map_append]; (repeat (first | with_reducible assumption | ((first | apply yP | apply yQ); (first | omega | (simp; done) | (simp; omega))) | ((first | refine (yR _ _ ?_).trans ?_ | refine (yS _ _ ?_).trans ?_ | refine (yT _ ?_).trans ?_ | refine (yU (by with_reducible assumption) _ ?_).trans ?_); (· (first | omega | (simp; done) | (simp; omega)))) | exact rfl | assumption)), hoA, hoA⟩⟩
        · have hjn : j = b[k].length := by omega
          subst hjn
          rw [List.take_length] at hrow
          have htk : mapM (levF e) (b.take (k + 1)) = mapM (levF e) (b.take k) ++ [b[k].map (levF e)] := by unfold mapM; rw [take_succ_of hlt, List.map_append]; rfl
          have hrR : ∀ x ∈ b[k].map (levF e), inR x := fun x hx => by
            obtain ⟨y, hy, rfl⟩ := List.mem_map.1 hx
            obtain ⟨hy1, _⟩ := levF_bd (e := e) (hrb y hy)
            unfold inR; omega
          have hrL : (b[k].map (levF e)).length ≤ maxN := by rw [List.length_map]; unfold maxN; omega
          have hkl : (mapM (levF e) (b.take k)).length = k := by unfold mapM; rw [List.length_map, List.length_take]; omega
          generalize hys : (b[k].map (levF e)) = ys at hrow htk hrR hrL
          generalize hts2 : mapM (levF e) (b.take k) = ts at hos htk hkl
          have hsnap := hle2.kp
          rcases hrow with ⟨rfl, hn0⟩ | ⟨ou, rfl, ho, ho1, ho2⟩
          · have hyN : RRow H2 [.slice none 0 0] ys := ⟨none, 0, by rw [hn0]; rfl, by rw [hn0]; exact .nil, by rw [hn0]; exact ⟨fun _ => rfl, by simp⟩⟩
            rcases hos with ⟨rfl, hm0⟩ | ⟨o, vs, rfl, hoo, hvl, hvs, hol, hoh⟩
            · skip
              repeat' ((conv => whnf); first | ((first | (apply vB; (case h => with_reducible assumption)) | (apply vA; (case h => with_reducible assumption)) | (apply vC; (case h => with_reducible assumption))); (case hk => exact kpA); (case he => omega)) | ((first | (apply vI; (case h => with_reducible assumption)) | (apply vG; (case h => with_reducible assumption)) | (apply vK; (case h => with_reducible assumption))); (case hk => exact kpA); (case he => omega); (case hp => omega); (case' g => intro hr_ hc_)) | ((first | (apply vJ; (case h => with_reducible assumption)) | (apply vH; (case h => with_reducible assumption)) | (apply vL; (case h => with_reducible assumption))); (case hk => exact kpA); (case he => omega); (case' g => intro hr_ hc_)) | apply yA | apply yB | ((first | apply zA | apply zC | apply zE | apply zG); (· with_reducible assumption)) | ((first | apply zB | apply zD | apply zF | apply zH); (· with_reducible assumption)) | apply zM | apply zN | apply zO | apply zP | apply zQ | apply zR | apply zS | apply zT | apply zU | (apply zV; (· omega)) | (apply zW; (· omega)) | (apply zX; (· (first | omega | (dsimp only; omega)))) | (apply zY; (try (apply zY; apply zX; (· omega))); apply zX; (· omega); apply zX; (· (first | omega | (dsimp only; omega)))) | ((first | apply yJ | apply yK | apply yL | apply yM | apply yN | apply yO); (· exact hgA); (· exact hsA)) | (apply yNP; (· exact hgA); (· exact hsA)) | ((first | apply zA | apply zC | apply zE | apply zG); (· omega)) | ((first | apply zB | apply zD | apply zF | apply zH); (· omega)) | ((first | apply zI | apply zK); (· with_reducible assumption)) | ((first | apply zJ | apply zL); (· with_reducible assumption)) | ((first | apply xA | apply xC | apply xE | apply xG); (· first | assumption | rfl)) | ((first | apply xB | apply xD | apply xF | apply xH); (· first | assumption | kernel_rfl)) | fail)
              conv => whnf
              apply Exists.intro (k + 1, _, _)
              refine ⟨?inv, ?mu, ?wk⟩
              case wk =>
                conv => whnf
                refine weakH_of (HW.refl _) ?_
                repeat' (first | exact WT.nil | refine WT.same ?_ | refine WT.drop ?_ | refine WT.int (by omega) ?_ | refine WT.eq (by assumption) ?_ | refine WT.bl (by first | assumption | (symm; assumption)) ?_ | refine WT.vv (by assumption) ?_)
              case mu => first | omega | (dsimp only; omega)
              case inv => exact ⟨by omega, leA, by
                rw [htk, hm0]
                exact OSl.one hgA (rSl_mono rInt_mono _ _ _ _ kpA hyN) ⟨hoA, hoA⟩⟩
            · have hoo2 := (hle2.get o hoh).trans hoo
              repeat' ((conv => whnf); first | ((first | (apply vB; (case h => with_reducible assumption)) | (apply vA; (case h => with_reducible assumption)) | (apply vC; (case h => with_reducible assumption))); (case hk => exact kpA); (case he => omega)) | ((first | (apply vI; (case h => with_reducible assumption)) | (apply vG; (case h => with_reducible assumption)) | (apply vK; (case h => with_reducible assumption))); (case hk => exact kpA); (case he => omega); (case hp => omega); (case' g => intro hr_ hc_)) | ((first | (apply vJ; (case h => with_reducible assumption)) | (apply vH; (case h => with_reducible assumption)) | (apply vL; (case h => with_reducible assumption))); (case hk => exact kpA); (case he => omega); (case' g => intro hr_ hc_)) | apply yA | apply yB | ((first | apply zA | apply zC | apply zE | apply zG); (· with_reducible assumption)) | ((first | apply zB | apply zD | apply zF | apply zH); (· with_reducible assumption)) | apply zM | apply zN | apply zO | apply zP | apply zQ | apply zR | apply zS | apply zT | apply zU | (apply zV; (· omega)) | (apply zW; (· omega)) | (apply zX; (· (first | omega | (dsimp only; omega)))) | (apply zY; (try (apply zY; apply zX; (· omega))); apply zX; (· omega); apply zX; (· (first | omega | (dsimp only; omega)))) | ((first | apply yJ | apply yK | apply yL | apply yM | apply yN | apply yO); (· exact hgA); (· exact hsA)) | (apply yNP; (· exact hgA); (· exact hsA)) | ((first | apply zA | apply zC | apply zE | apply zG); (· omega)) | ((first | apply zB | apply zD | apply zF | apply zH); (· omega)) | ((first | apply zI | apply zK); (· with_reducible assumption)) | ((first | apply zJ | apply zL); (· with_reducible assumption)) | ((first | apply xA | apply xC | apply xE | apply xG); (· first | assumption | rfl)) | ((first | apply xB | apply xD | apply xF | apply xH); (· first | assumption | kernel_rfl)) | fail)
              conv => whnf
              apply Exists.intro (k + 1, _, _)
              refine ⟨?inv, ?mu, ?wk⟩
              case wk =>
                conv => whnf
                refine weakH_of (HW.refl _) ?_
                repeat' (first | exact WT.nil | refine WT.same ?_ | refine WT.drop ?_ | refine WT.int (by omega) ?_ | refine WT.eq (by assumption) ?_ | refine WT.bl (by first | assumption | (symm; assumption)) ?_ | refine WT.vv (by assumption) ?_)
              case mu => first | omega | (dsimp only; omega)
              case inv => exact ⟨by omega, leA, by
                rw [htk]
                exact OSl.snoc (rSl_mono rInt_mono) hvl hvs (Kp.trans hsnap kpA) hgA (rSl_mono rInt_mono _ _ _ _ kpA hyN) ⟨hoA, hoA⟩⟩
          · rcases hos with ⟨rfl, hm0⟩ | ⟨o, vs, rfl, hoo, hvl, hvs, hol, hoh⟩
            · skip
              repeat' ((conv => whnf); first | ((first | (apply vB; (case h => with_reducible assumption)) | (apply vA; (case h => with_reducible assumption)) | (apply vC; (case h => with_reducible assumption))); (case hk => exact kpA); (case he => omega)) | ((first | (apply vI; (case h => with_reducible assumption)) | (apply vG; (case h => with_reducible assumption)) | (apply vK; (case h => with_reducible assumption))); (case hk => exact kpA); (case he => omega); (case hp => omega); (case' g => intro hr_ hc_)) | ((first | (apply vJ; (case h => with_reducible assumption)) | (apply vH; (case h => with_reducible assumption)) | (apply vL; (case h => with_reducible assumption))); (case hk => exact kpA); (case he => omega); (case' g => intro hr_ hc_)) | apply yA | apply yB | ((first | apply zA | apply zC | apply zE | apply zG); (· with_reducible assumption)) | ((first | apply zB | apply zD | apply zF | apply zH); (· with_reducible assumption)) | apply zM | apply zN | apply zO | apply zP | apply zQ | apply zR | apply zS | apply zT | apply zU | (apply zV; (· omega)) | (apply zW; (· omega)) | (apply zX; (· (first | omega | (dsimp only; omega)))) | (apply zY; (try (apply zY; apply zX; (· omega))); apply zX; (· omega); apply zX; (· (first | omega | (dsimp only; omega)))) | ((first | apply yJ | apply yK | apply yL | apply yM | apply yN | apply yO); (· exact hgA); (· exact hsA)) | (apply yNP; (· exact hgA); (· exact hsA)) | ((first | apply zA | apply zC | apply zE | apply zG); (· omega)) | ((first | apply zB | apply zD | apply zF | apply zH); (· omega)) | ((first | apply zI | apply zK); (· with_reducible assumption)) | ((first | apply zJ | apply zL); (· with_reducible assumption)) | ((first | apply xA | apply xC | apply xE | apply xG); (· first | assumption | rfl)) | ((first | apply xB | apply xD | apply xF | apply xH); (· first | assumption | kernel_rfl)) | fail)
              conv => whnf
              apply Exists.intro (k + 1, _, _)
              refine ⟨?inv, ?mu, ?wk⟩
              case wk =>
                conv => whnf
                refine weakH_of (HW.freeze (i := ou) hgA) ?_
                repeat' (first | exact WT.nil | refine WT.same ?_ | refine WT.drop ?_ | refine WT.int (by omega) ?_ | refine WT.eq (by assumption) ?_ | refine WT.bl (by first | assumption | (symm; assumption)) ?_ | refine WT.vv (by assumption) ?_)
              case mu => first | omega | (dsimp only; omega)
              case inv => exact ⟨by omega, leA, by rw [htk, hm0]; exact OSl.one hgA ⟨_, _, rfl, Row.ofFB ⟨hoA, _, hgA⟩ hrL hrR, CapOk.of (Nat.le_refl _)⟩ ⟨hoA, hoA⟩⟩
            · have hoo2 := (hle2.get o hoh).trans hoo
              repeat' ((conv => whnf); first | ((first | (apply vB; (case h => with_reducible assumption)) | (apply vA; (case h => with_reducible assumption)) | (apply vC; (case h => with_reducible assumption))); (case hk => exact kpA); (case he => omega)) | ((first | (apply vI; (case h => with_reducible assumption)) | (apply vG; (case h => with_reducible assumption)) | (apply vK; (case h => with_reducible assumption))); (case hk => exact kpA); (case he => omega); (case hp => omega); (case' g => intro hr_ hc_)) | ((first | (apply vJ; (case h => with_reducible assumption)) | (apply vH; (case h => with_reducible assumption)) | (apply vL; (case h => with_reducible assumption))); (case hk => exact kpA); (case he => omega); (case' g => intro hr_ hc_)) | apply yA | apply yB | ((first | apply zA | apply zC | apply zE | apply zG); (· with_reducible assumption)) | ((first | apply zB | apply zD | apply zF | apply zH); (· with_reducible assumption)) | apply zM | apply zN | apply zO | apply zP | apply zQ | apply zR | apply zS | apply zT | apply zU | (apply zV; (· omega)) | (apply zW; (· omega)) | (apply zX; (· (first | omega | (dsimp only; omega)))) | (apply zY; (try (apply zY; apply zX; (· omega))); apply zX; (· omega); apply zX; (· (first | omega | (dsimp only; omega)))) | ((first | apply yJ | apply yK | apply yL | apply yM | apply yN | apply yO); (· exact hgA); (· exact hsA)) | (apply yNP; (· exact hgA); (· exact hsA)) | ((first | apply zA | apply zC | apply zE | apply zG); (· omega)) | ((first | apply zB | apply zD | apply zF | apply zH); (· omega)) | ((first | apply zI | apply zK); (· with_reducible assumption)) | ((first | apply zJ | apply zL); (· with_reducible assumption)) | ((first | apply xA | apply xC | apply xE | apply xG); (· first | assumption | rfl)) | ((first | apply xB | apply xD | apply xF | apply xH); (· first | assumption | kernel_rfl)) | fail)
              conv => whnf
              apply Exists.intro (k + 1, _, _)
              refine ⟨?inv, ?mu, ?wk⟩
              case wk =>
                conv => whnf
                refine weakH_of (HW.freeze (i := ou) hgA) ?_
                repeat' (first | exact WT.nil | refine WT.same ?_ | refine WT.drop ?_ | refine WT.int (by omega) ?_ | refine WT.eq (by assumption) ?_ | refine WT.bl (by first | assumption | (symm; assumption)) ?_ | refine WT.vv (by assumption) ?_)
              case mu => first | omega | (dsimp only; omega)
              case inv => exact ⟨by omega, leA, by rw [htk]; exact OSl.snoc (rSl_mono rInt_mono) hvl hvs (Kp.trans hsnap kpA) hgA ⟨_, _, rfl, Row.ofFB ⟨hoA, _, hgA⟩ hrL hrR, CapOk.of (Nat.le_refl _)⟩ ⟨hoA, hoA⟩⟩
      · have hkn : k = b.length := by omega
        subst hkn
        rw [List.take_length] at hos
        have hbl : (mapM (levF e) b).length = b.length := mapM_len _ _
        obtain ⟨a3, rfl, hb3⟩ := hos.fz (rSl_mono rInt_mono) (b := H.size) (Nat.le_refl _) (by rw [hbl]; unfold maxN; omega)
        have hmr : ∀ r ∈ mapM (levF e) b, r.length = framesB b ∧ ∀ x ∈ r, -2147483648 ≤ x ∧ x ≤ 2147483648 := fun r hr => by
          obtain ⟨q, hq, rfl⟩ := List.mem_map.1 hr
          refine ⟨by rw [List.length_map]; exact (hbr q hq).1, fun x hx => ?_⟩
          obtain ⟨y, hy, rfl⟩ := List.mem_map.1 hx
          exact (levF_bd (e := e) ((hbr q hq).2.2 y hy)).1
        have hmf := mapM_frames (levF e) b
        have hEn : bstr (encM e pl (mapM (levF e) b) ((mapM (levF e) b).length * framesB (mapM (levF e) b))) = bstr (encL e pl b) := by rw [encM_map, mapM_len, hmf]; rfl
        repeat' ((conv => whnf); first | refine callS_pre (HW.fz _ H.size) ?_; refine laid_c he hb3 (by rw [hbl]; omega) (by rw [hmf, hfr]; exact hL4) (fun r hr => by rw [hmf]; exact (hmr r hr).1) (fun r hr => (hmr r hr).2) ?_; rw [hEn] | ((first | (apply vB; (case h => with_reducible assumption)) | (apply vA; (case h => with_reducible assumption)) | (apply vC; (case h => with_reducible assumption))); (case hk => exact kpA); (case he => omega)) | ((first | (apply vI; (case h => with_reducible assumption)) | (apply vG; (case h => with_reducible assumption)) | (apply vK; (case h => with_reducible assumption))); (case hk => exact kpA); (case he => omega); (case hp => omega); (case' g => intro hr_ hc_)) | ((first | (apply vJ; (case h => with_reducible assumption)) | (apply vH; (case h => with_reducible assumption)) | (apply vL; (case h => with_reducible assumption))); (case hk => exact kpA); (case he => omega); (case' g => intro hr_ hc_)) | apply yA | apply yB | ((first | apply zA | apply zC | apply zE | apply zG); (· with_reducible assumption)) | ((first | apply zB | apply zD | apply zF | apply zH); (· with_reducible assumption)) | apply zM | apply zN | apply zO | apply zP | apply zQ | apply zR | apply zS | apply zT | apply zU | (apply zV; (· omega)) | (apply zW; (· omega)) | (apply zX; (· (first | omega | (dsimp only; omega)))) | (apply zY; (try (apply zY; apply zX; (· omega))); apply zX; (· omega); apply zX; (· (first | omega | (dsimp only; omega)))) | ((first | apply yJ | apply yK | apply yL | apply yM | apply yN | apply yO); (· exact hgA); (· exact hsA)) | (apply yNP; (· exact hgA); (· exact hsA)) | ((first | apply zA | apply zC | apply zE | apply zG); (· omega)) | ((first | apply zB | apply zD | apply zF | apply zH); (· omega)) | ((first | apply zI | apply zK); (· with_reducible assumption)) | ((first | apply zJ | apply zL); (· with_reducible assumption)) | ((first | apply xA | apply xC | apply xE | apply xG); (· first | assumption | rfl)) | ((first | apply xB | apply xD | apply xF | apply xH); (· first | assumption | kernel_rfl)) | fail)
        conv => whnf
        exact h _ (AHeap.le.fz hle1 (Nat.le_refl _))
    · rw [if_neg (fun hh => he hh.2), if_neg he] at h
      refine callS_walk tt_ok Try.func44 rfl (by kernel_rfl) ?_
      conv => whnf
      repeat' ((conv => whnf); first | (apply refValid_v; (· exact mtA); (· with_reducible assumption)) | refine refBits_f he ?_ | ((first | (apply vB; (case h => with_reducible assumption)) | (apply vA; (case h => with_reducible assumption)) | (apply vC; (case h => with_reducible assumption))); (case hk => exact kpA); (case he => omega)) | ((first | (apply vI; (case h => with_reducible assumption)) | (apply vG; (case h => with_reducible assumption)) | (apply vK; (case h => with_reducible assumption))); (case hk => exact kpA); (case he => omega); (case hp => omega); (case' g => intro hr_ hc_)) | ((first | (apply vJ; (case h => with_reducible assumption)) | (apply vH; (case h => with_reducible assumption)) | (apply vL; (case h => with_reducible assumption))); (case hk => exact kpA); (case he => omega); (case' g => intro hr_ hc_)) | apply yA | apply yB | ((first | apply zA | apply zC | apply zE | apply zG); (· with_reducible assumption)) | ((first | apply zB | apply zD | apply zF | apply zH); (· with_reducible assumption)) | apply zM | apply zN | apply zO | apply zP | apply zQ | apply zR | apply zS | apply zT | apply zU | (apply zV; (· omega)) | (apply zW; (· omega)) | (apply zX; (· (first | omega | (dsimp only; omega)))) | (apply zY; (try (apply zY; apply zX; (· omega))); apply zX; (· omega); apply zX; (· (first | omega | (dsimp only; omega)))) | ((first | apply yJ | apply yK | apply yL | apply yM | apply yN | apply yO); (· exact hgA); (· exact hsA)) | (apply yNP; (· exact hgA); (· exact hsA)) | ((first | apply zA | apply zC | apply zE | apply zG); (· omega)) | ((first | apply zB | apply zD | apply zF | apply zH); (· omega)) | ((first | apply zI | apply zK); (· with_reducible assumption)) | ((first | apply zJ | apply zL); (· with_reducible assumption)) | ((first | apply xA | apply xC | apply xE | apply xG); (· first | assumption | rfl)) | ((first | apply xB | apply xD | apply xF | apply xH); (· first | assumption | kernel_rfl)) | fail)
      conv => whnf
      exact h _ leA
end Go.Abs
