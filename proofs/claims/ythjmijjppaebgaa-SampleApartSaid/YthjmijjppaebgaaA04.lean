/- Contracts of encodings' numbers: bits, levels, samples, sizes. -/
import Derived.Test.YthjmijjppaebgaaR04
set_option linter.all false
set_option maxHeartbeats 400000
set_option maxRecDepth 20000
namespace Go.Abs
open Go Go.Proofs

def codV (b : Int) (g : Bool) : Value := .iface 102 (.agg #[iv b, .bool g])
def codL : List Value := [.nilIface, codV 1 false, .iface 104 (.agg #[]), codV 2 false, codV 2 true, codV 3 false, codV 3 true, codV 4 false, codV 4 true]
def codAt (e : Int) : Value := codL.getD e.toNat .nilIface
def bitsF (e : Int) : Int := 8 * ((e + 1) / 2)
abbrev enc (e : Int) : Prop := 1 ≤ e ∧ e ≤ 8
theorem enc_cases {e : Int} (h : enc e) : e = 1 ∨ e = 2 ∨ e = 3 ∨ e = 4 ∨ e = 5 ∨ e = 6 ∨ e = 7 ∨ e = 8 := by omega
theorem bits_cases {e : Int} (h : enc e) : (bitsF e = 8 ∧ e ≤ 2) ∨ (bitsF e = 16 ∧ 3 ≤ e ∧ e ≤ 4) ∨ (bitsF e = 24 ∧ 5 ≤ e ∧ e ≤ 6) ∨ (bitsF e = 32 ∧ 7 ≤ e) := by unfold bitsF; omega
theorem codings_c {H : AHeap} {K : CK} (h : K (.returned (.slice (some ⟨H.size, 0, none⟩) 9 9)) (H.push (.cells codL true 1))) : callS P (fnV 50) [] H K := by
  refine callS_walk tt_ok Try.func50 rfl (by kernel_rfl) ?_
  conv => whnf
  repeat' ((conv => whnf); first | (apply drawS_auto mixed tt_ok; (· kernel_rfl)) | apply zZ | apply yA | apply yB | ((first | apply zA | apply zC | apply zE | apply zG); (· with_reducible assumption)) | ((first | apply zB | apply zD | apply zF | apply zH); (· with_reducible assumption)) | apply zM | apply zN | apply zO | apply zP | apply zQ | apply zR | apply zS | apply zT | apply zU | (apply zV; (· omega)) | (apply zW; (· omega)) | (apply zX; (· (first | omega | (dsimp only; omega)))) | (apply zY; (try (apply zY; apply zX; (· omega))); apply zX; (· omega); apply zX; (· (first | omega | (dsimp only; omega)))) | ((first | apply yJ | apply yK | apply yL | apply yM | apply yN | apply yO); (· exact hgA); (· exact hsA)) | (apply yNP; (· exact hgA); (· exact hsA)) | ((first | apply zA | apply zC | apply zE | apply zG); (· omega)) | ((first | apply zB | apply zD | apply zF | apply zH); (· omega)) | ((first | apply zI | apply zK); (· with_reducible assumption)) | ((first | apply zJ | apply zL); (· with_reducible assumption)) | fail)
  conv => whnf
  exact h
theorem codL_at {e : Int} (he : enc e) : codL[0 + e.toNat * 1]? = some (codAt e) := by
  rcases enc_cases he with rfl | rfl | rfl | rfl | rfl | rfl | rfl | rfl <;> rfl
theorem loadK_cod {H : AHeap} {i : Nat} {e : Int} {K : Value → Prop} (he : enc e) (h : H.get i = some (.cells codL true 1)) (hk : K (codAt e)) : loadK H i (0 + e.toNat * 1) K := loadK_get h (codL_at he) hk
theorem sbits_c {b : Int} {g : Bool} (hb : 1 ≤ b ∧ b ≤ 4) {H : AHeap} {K : CK} (h : K (.returned (iv (8 * b))) H) : callS P (fnV 105) [.agg #[iv b, .bool g]] H K := by
  refine callS_forget ?_
  refine callS_walk tt_ok Try.func105 rfl (by kernel_rfl) ?_
  conv => whnf
  repeat' ((conv => whnf); first | ((first | (apply vB; (case h => with_reducible assumption)) | (apply vA; (case h => with_reducible assumption)) | (apply vC; (case h => with_reducible assumption))); (case hk => exact kpA); (case he => omega)) | ((first | (apply vI; (case h => with_reducible assumption)) | (apply vG; (case h => with_reducible assumption)) | (apply vK; (case h => with_reducible assumption))); (case hk => exact kpA); (case he => omega); (case hp => omega); (case' g => intro hr_ hc_)) | ((first | (apply vJ; (case h => with_reducible assumption)) | (apply vH; (case h => with_reducible assumption)) | (apply vL; (case h => with_reducible assumption))); (case hk => exact kpA); (case he => omega); (case' g => intro hr_ hc_)) | apply yA | apply yB | ((first | apply zA | apply zC | apply zE | apply zG); (· with_reducible assumption)) | ((first | apply zB | apply zD | apply zF | apply zH); (· with_reducible assumption)) | apply zM | apply zN | apply zO | apply zP | apply zQ | apply zR | apply zS | apply zT | apply zU | (apply zV; (· omega)) | (apply zW; (· omega)) | (apply zX; (· (first | omega | (dsimp only; omega)))) | (apply zY; (try (apply zY; apply zX; (· omega))); apply zX; (· omega); apply zX; (· (first | omega | (dsimp only; omega)))) | ((first | apply yJ | apply yK | apply yL | apply yM | apply yN | apply yO); (· exact hgA); (· exact hsA)) | (apply yNP; (· exact hgA); (· exact hsA)) | ((first | apply zA | apply zC | apply zE | apply zG); (· omega)) | ((first | apply zB | apply zD | apply zF | apply zH); (· omega)) | ((first | apply zI | apply zK); (· with_reducible assumption)) | ((first | apply zJ | apply zL); (· with_reducible assumption)) | fail)
  conv => whnf
  exact ⟨leA, _, rfl, rfl, h⟩
theorem hbits_c {H : AHeap} {K : CK} (h : K (.returned (iv 8)) H) : callS P (fnV 109) [.agg #[]] H K := by
  refine callS_forget ?_
  refine callS_walk tt_ok Try.func109 rfl (by kernel_rfl) ?_
  conv => whnf
  repeat' ((conv => whnf); first | apply yA | apply yB | ((first | apply zA | apply zC | apply zE | apply zG); (· with_reducible assumption)) | ((first | apply zB | apply zD | apply zF | apply zH); (· with_reducible assumption)) | apply zM | apply zN | apply zO | apply zP | apply zQ | apply zR | apply zS | apply zT | apply zU | (apply zV; (· omega)) | (apply zW; (· omega)) | (apply zX; (· (first | omega | (dsimp only; omega)))) | (apply zY; (try (apply zY; apply zX; (· omega))); apply zX; (· omega); apply zX; (· (first | omega | (dsimp only; omega)))) | ((first | apply yJ | apply yK | apply yL | apply yM | apply yN | apply yO); (· exact hgA); (· exact hsA)) | (apply yNP; (· exact hgA); (· exact hsA)) | ((first | apply zA | apply zC | apply zE | apply zG); (· omega)) | ((first | apply zB | apply zD | apply zF | apply zH); (· omega)) | ((first | apply zI | apply zK); (· with_reducible assumption)) | ((first | apply zJ | apply zL); (· with_reducible assumption)) | fail)
  conv => whnf
  exact ⟨leA, _, rfl, rfl, h⟩
theorem bits_v {e b : Int} (he : enc e) (hb : bitsF e = b) {H : AHeap} {K : CK} (h : K (.returned (iv b)) H) : invS P (codAt e) "continuo/sample.bits" [] H K := by
  subst hb
  rcases enc_cases he with rfl | rfl | rfl | rfl | rfl | rfl | rfl | rfl
  · exact invS_of (f := 105) (by kernel_rfl) (sbits_c (by omega) h)
  · exact invS_of (f := 109) (by kernel_rfl) (hbits_c h)
  · exact invS_of (f := 105) (by kernel_rfl) (sbits_c (by omega) h)
  · exact invS_of (f := 105) (by kernel_rfl) (sbits_c (by omega) h)
  · exact invS_of (f := 105) (by kernel_rfl) (sbits_c (by omega) h)
  · exact invS_of (f := 105) (by kernel_rfl) (sbits_c (by omega) h)
  · exact invS_of (f := 105) (by kernel_rfl) (sbits_c (by omega) h)
  · exact invS_of (f := 105) (by kernel_rfl) (sbits_c (by omega) h)
theorem known_t {e : Int} (he : enc e) {H : AHeap} {K : CK} (h : K (.returned (.bool true)) H) : callS P (fnV 49) [iv e] H K := by
  refine callS_walk tt_ok Try.func49 rfl (by kernel_rfl) ?_
  conv => whnf
  repeat' ((conv => whnf); first | (apply drawS_auto mixed tt_ok; (· kernel_rfl)) | apply zZ | apply yA | apply yB | ((first | apply zA | apply zC | apply zE | apply zG); (· with_reducible assumption)) | ((first | apply zB | apply zD | apply zF | apply zH); (· with_reducible assumption)) | apply zM | apply zN | apply zO | apply zP | apply zQ | apply zR | apply zS | apply zT | apply zU | (apply zV; (· omega)) | (apply zW; (· omega)) | (apply zX; (· (first | omega | (dsimp only; omega)))) | (apply zY; (try (apply zY; apply zX; (· omega))); apply zX; (· omega); apply zX; (· (first | omega | (dsimp only; omega)))) | ((first | apply zA | apply zC | apply zE | apply zG); (· omega)) | ((first | apply zB | apply zD | apply zF | apply zH); (· omega)) | ((first | apply zI | apply zK); (· with_reducible assumption)) | ((first | apply zJ | apply zL); (· with_reducible assumption)) | fail)
  conv => whnf
  rw [decide_eq_true he.2]
  exact h
theorem known_f {e : Int} (he : ¬ enc e) {H : AHeap} {K : CK} (h : K (.returned (.bool false)) H) : callS P (fnV 49) [iv e] H K := by
  refine callS_walk tt_ok Try.func49 rfl (by kernel_rfl) ?_
  conv => whnf
  by_cases h1 : 1 ≤ e
  · have h2 : decide (e ≤ 8) = false := decide_eq_false (fun h => he ⟨h1, h⟩)
    repeat' ((conv => whnf); first | (apply drawS_auto mixed tt_ok; (· kernel_rfl)) | apply zZ | apply yA | apply yB | ((first | apply zA | apply zC | apply zE | apply zG); (· with_reducible assumption)) | ((first | apply zB | apply zD | apply zF | apply zH); (· with_reducible assumption)) | apply zM | apply zN | apply zO | apply zP | apply zQ | apply zR | apply zS | apply zT | apply zU | (apply zV; (· omega)) | (apply zW; (· omega)) | (apply zX; (· (first | omega | (dsimp only; omega)))) | (apply zY; (try (apply zY; apply zX; (· omega))); apply zX; (· omega); apply zX; (· (first | omega | (dsimp only; omega)))) | ((first | apply zA | apply zC | apply zE | apply zG); (· omega)) | ((first | apply zB | apply zD | apply zF | apply zH); (· omega)) | ((first | apply zI | apply zK); (· with_reducible assumption)) | ((first | apply zJ | apply zL); (· with_reducible assumption)) | fail)
    conv => whnf
    rw [h2]
    exact h
  · skip
    repeat' ((conv => whnf); first | (apply drawS_auto mixed tt_ok; (· kernel_rfl)) | apply zZ | apply yA | apply yB | ((first | apply zA | apply zC | apply zE | apply zG); (· with_reducible assumption)) | ((first | apply zB | apply zD | apply zF | apply zH); (· with_reducible assumption)) | apply zM | apply zN | apply zO | apply zP | apply zQ | apply zR | apply zS | apply zT | apply zU | (apply zV; (· omega)) | (apply zW; (· omega)) | (apply zX; (· (first | omega | (dsimp only; omega)))) | (apply zY; (try (apply zY; apply zX; (· omega))); apply zX; (· omega); apply zX; (· (first | omega | (dsimp only; omega)))) | ((first | apply zA | apply zC | apply zE | apply zG); (· omega)) | ((first | apply zB | apply zD | apply zF | apply zH); (· omega)) | ((first | apply zI | apply zK); (· with_reducible assumption)) | ((first | apply zJ | apply zL); (· with_reducible assumption)) | fail)
    conv => whnf
    exact h
def unitF (e : Int) : Int := if e ≤ 2 then 65536 else 256
def maxF (e : Int) : Int := if e ≤ 2 then 127 else if e ≤ 4 then 32767 else if e ≤ 6 then 8388607 else 2147483647
def clipS (x : Int) : Int := max (0 - 8388607) (min 8388607 x)
def levF (e x : Int) : Int := if 7 ≤ e then x * 256 else if 5 ≤ e then x else max (0 - maxF e) (min (maxF e) (rnd x (unitF e)))
def sampF (e l : Int) : Int := if 7 ≤ e then clipS (rnd l 256) else if 5 ≤ e then l else l * unitF e
theorem top_c {e b : Int} (he : enc e) (hb : bitsF e = b) {H : AHeap} {K : CK} (h : K (.returned (iv (maxF e))) H) : callS P (fnV 54) [iv b] H K := by
  subst hb
  unfold maxF at h
  rcases bits_cases he with ⟨hb, h2⟩ | ⟨hb, h3, h4⟩ | ⟨hb, h5, h6⟩ | ⟨hb, h7⟩
  · rw [if_pos h2] at h
    rw [hb]
    refine callS_walk tt_ok Try.func54 rfl (by kernel_rfl) ?_
    conv => whnf
    repeat' ((conv => whnf); first | (refine intK_shl (v := 128) rfl ?_ ?_; (· omega)) | apply yA | apply yB | ((first | apply zA | apply zC | apply zE | apply zG); (· with_reducible assumption)) | ((first | apply zB | apply zD | apply zF | apply zH); (· with_reducible assumption)) | apply zM | apply zN | apply zO | apply zP | apply zQ | apply zR | apply zS | apply zT | apply zU | (apply zV; (· omega)) | (apply zW; (· omega)) | (apply zX; (· (first | omega | (dsimp only; omega)))) | (apply zY; (try (apply zY; apply zX; (· omega))); apply zX; (· omega); apply zX; (· (first | omega | (dsimp only; omega)))) | ((first | apply zA | apply zC | apply zE | apply zG); (· omega)) | ((first | apply zB | apply zD | apply zF | apply zH); (· omega)) | ((first | apply zI | apply zK); (· with_reducible assumption)) | ((first | apply zJ | apply zL); (· with_reducible assumption)) | fail)
    conv => whnf
    exact h
  · rw [if_neg (by omega), if_pos h4] at h
    rw [hb]
    refine callS_walk tt_ok Try.func54 rfl (by kernel_rfl) ?_
    conv => whnf
    repeat' ((conv => whnf); first | (refine intK_shl (v := 32768) rfl ?_ ?_; (· omega)) | apply yA | apply yB | ((first | apply zA | apply zC | apply zE | apply zG); (· with_reducible assumption)) | ((first | apply zB | apply zD | apply zF | apply zH); (· with_reducible assumption)) | apply zM | apply zN | apply zO | apply zP | apply zQ | apply zR | apply zS | apply zT | apply zU | (apply zV; (· omega)) | (apply zW; (· omega)) | (apply zX; (· (first | omega | (dsimp only; omega)))) | (apply zY; (try (apply zY; apply zX; (· omega))); apply zX; (· omega); apply zX; (· (first | omega | (dsimp only; omega)))) | ((first | apply zA | apply zC | apply zE | apply zG); (· omega)) | ((first | apply zB | apply zD | apply zF | apply zH); (· omega)) | ((first | apply zI | apply zK); (· with_reducible assumption)) | ((first | apply zJ | apply zL); (· with_reducible assumption)) | fail)
    conv => whnf
    exact h
  · rw [if_neg (by omega), if_neg (by omega), if_pos h6] at h
    rw [hb]
    refine callS_walk tt_ok Try.func54 rfl (by kernel_rfl) ?_
    conv => whnf
    repeat' ((conv => whnf); first | (refine intK_shl (v := 8388608) rfl ?_ ?_; (· omega)) | apply yA | apply yB | ((first | apply zA | apply zC | apply zE | apply zG); (· with_reducible assumption)) | ((first | apply zB | apply zD | apply zF | apply zH); (· with_reducible assumption)) | apply zM | apply zN | apply zO | apply zP | apply zQ | apply zR | apply zS | apply zT | apply zU | (apply zV; (· omega)) | (apply zW; (· omega)) | (apply zX; (· (first | omega | (dsimp only; omega)))) | (apply zY; (try (apply zY; apply zX; (· omega))); apply zX; (· omega); apply zX; (· (first | omega | (dsimp only; omega)))) | ((first | apply zA | apply zC | apply zE | apply zG); (· omega)) | ((first | apply zB | apply zD | apply zF | apply zH); (· omega)) | ((first | apply zI | apply zK); (· with_reducible assumption)) | ((first | apply zJ | apply zL); (· with_reducible assumption)) | fail)
    conv => whnf
    exact h
  · rw [if_neg (by omega), if_neg (by omega), if_neg (by omega)] at h
    rw [hb]
    refine callS_walk tt_ok Try.func54 rfl (by kernel_rfl) ?_
    conv => whnf
    repeat' ((conv => whnf); first | (refine intK_shl (v := 2147483648) rfl ?_ ?_; (· omega)) | apply yA | apply yB | ((first | apply zA | apply zC | apply zE | apply zG); (· with_reducible assumption)) | ((first | apply zB | apply zD | apply zF | apply zH); (· with_reducible assumption)) | apply zM | apply zN | apply zO | apply zP | apply zQ | apply zR | apply zS | apply zT | apply zU | (apply zV; (· omega)) | (apply zW; (· omega)) | (apply zX; (· (first | omega | (dsimp only; omega)))) | (apply zY; (try (apply zY; apply zX; (· omega))); apply zX; (· omega); apply zX; (· (first | omega | (dsimp only; omega)))) | ((first | apply zA | apply zC | apply zE | apply zG); (· omega)) | ((first | apply zB | apply zD | apply zF | apply zH); (· omega)) | ((first | apply zI | apply zK); (· with_reducible assumption)) | ((first | apply zJ | apply zL); (· with_reducible assumption)) | fail)
    conv => whnf
    exact h
abbrev inS (x : Int) : Prop := -8388607 ≤ x ∧ x ≤ 8388607
theorem maxF_bd (e : Int) : 127 ≤ maxF e ∧ maxF e ≤ 2147483647 := by unfold maxF; omega
theorem level_c {e x : Int} (he : enc e) (hx : inS x) {H : AHeap} {K : CK} (h : K (.returned (iv (levF e x))) H) : callS P (fnV 52) [codAt e, iv x] H K := by
  have hm := maxF_bd e
  unfold levF unitF at h
  rcases bits_cases he with ⟨hb, h2⟩ | ⟨hb, h3, h4⟩ | ⟨hb, h5, h6⟩ | ⟨hb, h7⟩
  · rw [if_neg (by omega), if_neg (by omega), if_pos h2] at h
    refine callS_walk tt_ok Try.func52 rfl (by kernel_rfl) ?_
    conv => whnf
    repeat' ((conv => whnf); first | refine bits_v he hb ?_ | (refine intK_shl (v := 65536) rfl ?_ ?_; (· omega)) | (apply rounded_c; (· omega); (· omega)) | refine top_c he hb ?_ | (apply bounded_c; (· omega)) | apply yA | apply yB | ((first | apply zA | apply zC | apply zE | apply zG); (· with_reducible assumption)) | ((first | apply zB | apply zD | apply zF | apply zH); (· with_reducible assumption)) | apply zM | apply zN | apply zO | apply zP | apply zQ | apply zR | apply zS | apply zT | apply zU | (apply zV; (· omega)) | (apply zW; (· omega)) | (apply zX; (· (first | omega | (dsimp only; omega)))) | (apply zY; (try (apply zY; apply zX; (· omega))); apply zX; (· omega); apply zX; (· (first | omega | (dsimp only; omega)))) | ((first | apply zA | apply zC | apply zE | apply zG); (· omega)) | ((first | apply zB | apply zD | apply zF | apply zH); (· omega)) | ((first | apply zI | apply zK); (· with_reducible assumption)) | ((first | apply zJ | apply zL); (· with_reducible assumption)) | fail)
    conv => whnf
    exact h
  · rw [if_neg (by omega), if_neg (by omega), if_neg (by omega)] at h
    refine callS_walk tt_ok Try.func52 rfl (by kernel_rfl) ?_
    conv => whnf
    repeat' ((conv => whnf); first | refine bits_v he hb ?_ | (refine intK_shl (v := 256) rfl ?_ ?_; (· omega)) | (apply rounded_c; (· omega); (· omega)) | refine top_c he hb ?_ | (apply bounded_c; (· omega)) | apply yA | apply yB | ((first | apply zA | apply zC | apply zE | apply zG); (· with_reducible assumption)) | ((first | apply zB | apply zD | apply zF | apply zH); (· with_reducible assumption)) | apply zM | apply zN | apply zO | apply zP | apply zQ | apply zR | apply zS | apply zT | apply zU | (apply zV; (· omega)) | (apply zW; (· omega)) | (apply zX; (· (first | omega | (dsimp only; omega)))) | (apply zY; (try (apply zY; apply zX; (· omega))); apply zX; (· omega); apply zX; (· (first | omega | (dsimp only; omega)))) | ((first | apply zA | apply zC | apply zE | apply zG); (· omega)) | ((first | apply zB | apply zD | apply zF | apply zH); (· omega)) | ((first | apply zI | apply zK); (· with_reducible assumption)) | ((first | apply zJ | apply zL); (· with_reducible assumption)) | fail)
    conv => whnf
    exact h
  · rw [if_neg (by omega), if_pos h5] at h
    refine callS_walk tt_ok Try.func52 rfl (by kernel_rfl) ?_
    conv => whnf
    repeat' ((conv => whnf); first | refine bits_v he hb ?_ | apply yA | apply yB | ((first | apply zA | apply zC | apply zE | apply zG); (· with_reducible assumption)) | ((first | apply zB | apply zD | apply zF | apply zH); (· with_reducible assumption)) | apply zM | apply zN | apply zO | apply zP | apply zQ | apply zR | apply zS | apply zT | apply zU | (apply zV; (· omega)) | (apply zW; (· omega)) | (apply zX; (· (first | omega | (dsimp only; omega)))) | (apply zY; (try (apply zY; apply zX; (· omega))); apply zX; (· omega); apply zX; (· (first | omega | (dsimp only; omega)))) | ((first | apply zA | apply zC | apply zE | apply zG); (· omega)) | ((first | apply zB | apply zD | apply zF | apply zH); (· omega)) | ((first | apply zI | apply zK); (· with_reducible assumption)) | ((first | apply zJ | apply zL); (· with_reducible assumption)) | fail)
    conv => whnf
    exact h
  · rw [if_pos h7] at h
    refine callS_walk tt_ok Try.func52 rfl (by kernel_rfl) ?_
    conv => whnf
    repeat' ((conv => whnf); first | refine bits_v he hb ?_ | apply yA | apply yB | ((first | apply zA | apply zC | apply zE | apply zG); (· with_reducible assumption)) | ((first | apply zB | apply zD | apply zF | apply zH); (· with_reducible assumption)) | apply zM | apply zN | apply zO | apply zP | apply zQ | apply zR | apply zS | apply zT | apply zU | (apply zV; (· omega)) | (apply zW; (· omega)) | (apply zX; (· (first | omega | (dsimp only; omega)))) | (apply zY; (try (apply zY; apply zX; (· omega))); apply zX; (· omega); apply zX; (· (first | omega | (dsimp only; omega)))) | ((first | apply zA | apply zC | apply zE | apply zG); (· omega)) | ((first | apply zB | apply zD | apply zF | apply zH); (· omega)) | ((first | apply zI | apply zK); (· with_reducible assumption)) | ((first | apply zJ | apply zL); (· with_reducible assumption)) | fail)
    conv => whnf
    exact h
/-! the reference -/
end Go.Abs
