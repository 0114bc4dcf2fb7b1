/- The reference's reader, byte by byte. No conditions beyond those stated. -/
import Derived.Test.YtpcnnioicfljfaaD10b
set_option linter.all false
set_option maxHeartbeats 2000000
set_option maxRecDepth 20000
namespace Go.Abs
open Go Go.Proofs

theorem wrap_u8 (e : Int) : IntKind.u8.wrap e = e % 256 := by
  simp [IntKind.wrap, IntKind.signed, IntKind.bits]
theorem intK_u8 {e : Int} {K : Int → Prop} (he : 0 ≤ e ∧ e < 256) (h : K e) : intK .u8 e K := intK_of (by rw [wrap_u8, show e % 256 = e by omega]; exact h)
theorem bstr_size (d : List Int) : (bstr d).size = d.length := by
  unfold bstr strV
  simp [ByteArray.size]
theorem bstr_at {d : List Int} {i : Nat} (h : i < d.length) (hb : 0 ≤ d[i] ∧ d[i] < 256) : sAt (bstr d) i = d[i] := by
  unfold sAt bstr strV
  simp [h, byteV]
  omega
theorem bstr_app (d : List Int) (c : Int) : bstr d ++ strV [.int .u8 c] = bstr (d ++ [c]) := by
  unfold bstr strV
  simp [ByteArray.append_eq, ByteArray.ext_iff]
theorem cat_u8 {d : List Int} {c : Int} {K : Value → Prop} (hl : d.length ≤ 1000) (hk : K (.string (bstr (d ++ [c])))) : reqK (decide ((bstr d).size + (strV [.int .u8 c]).size ≤ 1099511627776)) (K (.string (bstr d ++ strV [.int .u8 c]))) := by
  have e : (strV [.int .u8 c]).size = 1 := rfl
  rw [bstr_app]
  exact reqK_dec (by rw [bstr_size, e]; omega) hk
def rB (x : Int) : Int := if x = 0 then -1 else x
def rvL (S : MS) (sk fr : Int) : List Value := [iv (rB S.run), iv (rB S.beg), .bool S.sent, .string (bstr S.dat), iv sk, iv fr]
section
variable {H : AHeap} {K : CK}
theorem newRef_c (h : K (.returned (.agg ⟨rvL ⟨0, 0, false, []⟩ 0 0⟩)) H) : callS P (fnV 7) [] H K := by
  refine callS_forget ?_
  refine callS_walk tt_ok Try.func7 rfl (by kernel_rfl) ?_
  conv => whnf
  repeat' ((conv => whnf); first | apply yA | apply yB | ((first | apply zA | apply zC | apply zE | apply zG); (· with_reducible assumption)) | ((first | apply zB | apply zD | apply zF | apply zH); (· with_reducible assumption)) | apply zM | apply zN | apply zO | apply zP | apply zQ | apply zR | apply zS | apply zT | apply zU | (apply zV; (· omega)) | (apply zW; (· omega)) | (apply zX; (· (first | omega | (dsimp only; omega)))) | (apply zY; (try (apply zY; apply zX; (· omega))); apply zX; (· omega); apply zX; (· (first | omega | (dsimp only; omega)))) | ((first | apply yJ | apply yK | apply yL | apply yM | apply yN | apply yO); (· exact hgA); (· exact hsA)) | (apply yNP; (· exact hgA); (· exact hsA)) | ((first | apply zA | apply zC | apply zE | apply zG); (· omega)) | ((first | apply zB | apply zD | apply zF | apply zH); (· omega)) | ((first | apply zI | apply zK); (· with_reducible assumption)) | ((first | apply zJ | apply zL); (· with_reducible assumption)) | fail)
  conv => whnf
  exact ⟨leA, _, rfl, rfl, h⟩
theorem begin_c {r b st sk fr : Int} {s0 snt : Bool} {d : ByteArray} (hst : 128 ≤ st ∧ st ≤ 240) (h : K (.returned (.agg ⟨rvL (begS st snt) sk fr⟩)) H) : callS P (fnV 23) [.agg ⟨[iv r, iv b, .bool s0, .string d, iv sk, iv fr]⟩, iv st, .bool snt] H K := by
  have e2 : rB st = st := by unfold rB; rw [if_neg (by omega)]
  refine callS_forget ?_
  by_cases h4 : st = 240
  · have e : rvL (begS st snt) sk fr = [iv (-1), iv st, .bool snt, .string .empty, iv sk, iv fr] := by
      unfold rvL begS
      dsimp only
      rw [if_pos h4, e2]
      rfl
    rw [e] at h
    refine callS_walk tt_ok Try.func23 rfl (by kernel_rfl) ?_
    conv => whnf
    repeat' ((conv => whnf); first | ((first | (apply vB; (case h => with_reducible assumption)) | (apply vA; (case h => with_reducible assumption)) | (apply vC; (case h => with_reducible assumption))); (case hk => exact kpA); (case he => omega)) | ((first | (apply vI; (case h => with_reducible assumption)) | (apply vG; (case h => with_reducible assumption)) | (apply vK; (case h => with_reducible assumption))); (case hk => exact kpA); (case he => omega); (case hp => omega); (case' g => intro hr_ hc_)) | ((first | (apply vJ; (case h => with_reducible assumption)) | (apply vH; (case h => with_reducible assumption)) | (apply vL; (case h => with_reducible assumption))); (case hk => exact kpA); (case he => omega); (case' g => intro hr_ hc_)) | apply yA | apply yB | ((first | apply zA | apply zC | apply zE | apply zG); (· with_reducible assumption)) | ((first | apply zB | apply zD | apply zF | apply zH); (· with_reducible assumption)) | apply zM | apply zN | apply zO | apply zP | apply zQ | apply zR | apply zS | apply zT | apply zU | (apply zV; (· omega)) | (apply zW; (· omega)) | (apply zX; (· (first | omega | (dsimp only; omega)))) | (apply zY; (try (apply zY; apply zX; (· omega))); apply zX; (· omega); apply zX; (· (first | omega | (dsimp only; omega)))) | ((first | apply yJ | apply yK | apply yL | apply yM | apply yN | apply yO); (· exact hgA); (· exact hsA)) | (apply yNP; (· exact hgA); (· exact hsA)) | ((first | apply zA | apply zC | apply zE | apply zG); (· omega)) | ((first | apply zB | apply zD | apply zF | apply zH); (· omega)) | ((first | apply zI | apply zK); (· with_reducible assumption)) | ((first | apply zJ | apply zL); (· with_reducible assumption)) | ((first | apply xA | apply xC | apply xE | apply xG); (· first | assumption | rfl)) | ((first | apply xB | apply xD | apply xF | apply xH); (· first | assumption | kernel_rfl)) | fail)
    conv => whnf
    exact ⟨leA, _, rfl, rfl, h⟩
  · have e : rvL (begS st snt) sk fr = [iv st, iv st, .bool snt, .string .empty, iv sk, iv fr] := by
      unfold rvL begS
      dsimp only
      rw [if_neg h4, e2]
      rfl
    rw [e] at h
    refine callS_walk tt_ok Try.func23 rfl (by kernel_rfl) ?_
    conv => whnf
    repeat' ((conv => whnf); first | ((first | (apply vB; (case h => with_reducible assumption)) | (apply vA; (case h => with_reducible assumption)) | (apply vC; (case h => with_reducible assumption))); (case hk => exact kpA); (case he => omega)) | ((first | (apply vI; (case h => with_reducible assumption)) | (apply vG; (case h => with_reducible assumption)) | (apply vK; (case h => with_reducible assumption))); (case hk => exact kpA); (case he => omega); (case hp => omega); (case' g => intro hr_ hc_)) | ((first | (apply vJ; (case h => with_reducible assumption)) | (apply vH; (case h => with_reducible assumption)) | (apply vL; (case h => with_reducible assumption))); (case hk => exact kpA); (case he => omega); (case' g => intro hr_ hc_)) | apply yA | apply yB | ((first | apply zA | apply zC | apply zE | apply zG); (· with_reducible assumption)) | ((first | apply zB | apply zD | apply zF | apply zH); (· with_reducible assumption)) | apply zM | apply zN | apply zO | apply zP | apply zQ | apply zR | apply zS | apply zT | apply zU | (apply zV; (· omega)) | (apply zW; (· omega)) | (apply zX; (· (first | omega | (dsimp only; omega)))) | (apply zY; (try (apply zY; apply zX; (· omega))); apply zX; (· omega); apply zX; (· (first | omega | (dsimp only; omega)))) | ((first | apply yJ | apply yK | apply yL | apply yM | apply yN | apply yO); (· exact hgA); (· exact hsA)) | (apply yNP; (· exact hgA); (· exact hsA)) | ((first | apply zA | apply zC | apply zE | apply zG); (· omega)) | ((first | apply zB | apply zD | apply zF | apply zH); (· omega)) | ((first | apply zI | apply zK); (· with_reducible assumption)) | ((first | apply zJ | apply zL); (· with_reducible assumption)) | ((first | apply xA | apply xC | apply xE | apply xG); (· first | assumption | rfl)) | ((first | apply xB | apply xD | apply xF | apply xH); (· first | assumption | kernel_rfl)) | fail)
    conv => whnf
    exact ⟨leA, _, rfl, rfl, h⟩
theorem dataR_c {k : Int} {n : Nat} (hn : (if k = 5 ∨ k = 6 then 1 else 2) = n) (h : K (.returned (iv n)) H) : callS P (fnV 36) [iv k] H K := by
  by_cases h5 : k = 5
  · rw [if_pos (.inl h5)] at hn
    subst hn
    refine callS_walk tt_ok Try.func36 rfl (by kernel_rfl) ?_
    conv => whnf
    repeat' ((conv => whnf); first | (apply drawS_auto mixed tt_ok; (· kernel_rfl)) | apply zZ | apply yA | apply yB | ((first | apply zA | apply zC | apply zE | apply zG); (· with_reducible assumption)) | ((first | apply zB | apply zD | apply zF | apply zH); (· with_reducible assumption)) | apply zM | apply zN | apply zO | apply zP | apply zQ | apply zR | apply zS | apply zT | apply zU | (apply zV; (· omega)) | (apply zW; (· omega)) | (apply zX; (· (first | omega | (dsimp only; omega)))) | (apply zY; (try (apply zY; apply zX; (· omega))); apply zX; (· omega); apply zX; (· (first | omega | (dsimp only; omega)))) | ((first | apply zA | apply zC | apply zE | apply zG); (· omega)) | ((first | apply zB | apply zD | apply zF | apply zH); (· omega)) | ((first | apply zI | apply zK); (· with_reducible assumption)) | ((first | apply zJ | apply zL); (· with_reducible assumption)) | fail)
    conv => whnf
    exact h
  · by_cases h6 : k = 6
    · rw [if_pos (.inr h6)] at hn
      subst hn
      refine callS_walk tt_ok Try.func36 rfl (by kernel_rfl) ?_
      conv => whnf
      repeat' ((conv => whnf); first | (apply drawS_auto mixed tt_ok; (· kernel_rfl)) | apply zZ | apply yA | apply yB | ((first | apply zA | apply zC | apply zE | apply zG); (· with_reducible assumption)) | ((first | apply zB | apply zD | apply zF | apply zH); (· with_reducible assumption)) | apply zM | apply zN | apply zO | apply zP | apply zQ | apply zR | apply zS | apply zT | apply zU | (apply zV; (· omega)) | (apply zW; (· omega)) | (apply zX; (· (first | omega | (dsimp only; omega)))) | (apply zY; (try (apply zY; apply zX; (· omega))); apply zX; (· omega); apply zX; (· (first | omega | (dsimp only; omega)))) | ((first | apply zA | apply zC | apply zE | apply zG); (· omega)) | ((first | apply zB | apply zD | apply zF | apply zH); (· omega)) | ((first | apply zI | apply zK); (· with_reducible assumption)) | ((first | apply zJ | apply zL); (· with_reducible assumption)) | fail)
      conv => whnf
      exact h
    · rw [if_neg (by omega)] at hn
      subst hn
      refine callS_walk tt_ok Try.func36 rfl (by kernel_rfl) ?_
      conv => whnf
      repeat' ((conv => whnf); first | (apply drawS_auto mixed tt_ok; (· kernel_rfl)) | apply zZ | apply yA | apply yB | ((first | apply zA | apply zC | apply zE | apply zG); (· with_reducible assumption)) | ((first | apply zB | apply zD | apply zF | apply zH); (· with_reducible assumption)) | apply zM | apply zN | apply zO | apply zP | apply zQ | apply zR | apply zS | apply zT | apply zU | (apply zV; (· omega)) | (apply zW; (· omega)) | (apply zX; (· (first | omega | (dsimp only; omega)))) | (apply zY; (try (apply zY; apply zX; (· omega))); apply zX; (· omega); apply zX; (· (first | omega | (dsimp only; omega)))) | ((first | apply zA | apply zC | apply zE | apply zG); (· omega)) | ((first | apply zB | apply zD | apply zF | apply zH); (· omega)) | ((first | apply zI | apply zK); (· with_reducible assumption)) | ((first | apply zJ | apply zL); (· with_reducible assumption)) | fail)
      conv => whnf
      exact h
theorem tdv {st : Int} (h : 128 ≤ st ∧ st < 240) : (st - 112).tdiv 16 = (st - 112) / 16 := Int.tdiv_eq_ediv_of_nonneg (by omega)
theorem tmd {st : Int} (h : 128 ≤ st ∧ st < 240) : st.tmod 16 = st % 16 := Int.tmod_eq_emod_of_nonneg (by omega)
theorem event1 {st x : Int} (hst : 128 ≤ st ∧ st < 240) (hx : 0 ≤ x ∧ x < 128) (hk : (st - 112) / 16 ≠ 2) (h : K (.returned (.agg ⟨evL 0 (evt st [x])⟩)) H) : callS P (fnV 37) [iv st, .string (bstr [x])] H K := by
  have e : evt st [x] = ⟨(st - 112) / 16, st % 16, x, 0, .empty⟩ := by
    unfold evt
    rw [if_neg (fun hh => hk hh.1)]
    rfl
  have e0 : sAt (bstr [x]) ((0 : Int).toNat) = x := bstr_at (d := [x]) (i := 0) (by simp) (by simp; omega)
  have ez := bstr_size [x]
  simp only [List.length_cons, List.length_nil, Nat.zero_add] at ez
  rw [e] at h
  refine callS_forget ?_
  refine callS_walk tt_ok Try.func37 rfl (by kernel_rfl) ?_
  conv => whnf
  repeat' ((conv => whnf); first | rw [tdv hst] | rw [tmd hst] | rw [ez] | rw [e0] | ((first | (apply vB; (case h => with_reducible assumption)) | (apply vA; (case h => with_reducible assumption)) | (apply vC; (case h => with_reducible assumption))); (case hk => exact kpA); (case he => omega)) | ((first | (apply vI; (case h => with_reducible assumption)) | (apply vG; (case h => with_reducible assumption)) | (apply vK; (case h => with_reducible assumption))); (case hk => exact kpA); (case he => omega); (case hp => omega); (case' g => intro hr_ hc_)) | ((first | (apply vJ; (case h => with_reducible assumption)) | (apply vH; (case h => with_reducible assumption)) | (apply vL; (case h => with_reducible assumption))); (case hk => exact kpA); (case he => omega); (case' g => intro hr_ hc_)) | (apply drawS_auto mixed tt_ok; (· kernel_rfl)) | apply zZ | apply yA | apply yB | ((first | apply zA | apply zC | apply zE | apply zG); (· with_reducible assumption)) | ((first | apply zB | apply zD | apply zF | apply zH); (· with_reducible assumption)) | apply zM | apply zN | apply zO | apply zP | apply zQ | apply zR | apply zS | apply zT | apply zU | (apply zV; (· omega)) | (apply zW; (· omega)) | (apply zX; (· (first | omega | (dsimp only; omega)))) | (apply zY; (try (apply zY; apply zX; (· omega))); apply zX; (· omega); apply zX; (· (first | omega | (dsimp only; omega)))) | ((first | apply yJ | apply yK | apply yL | apply yM | apply yN | apply yO); (· exact hgA); (· exact hsA)) | (apply yNP; (· exact hgA); (· exact hsA)) | ((first | apply zA | apply zC | apply zE | apply zG); (· omega)) | ((first | apply zB | apply zD | apply zF | apply zH); (· omega)) | ((first | apply zI | apply zK); (· with_reducible assumption)) | ((first | apply zJ | apply zL); (· with_reducible assumption)) | fail)
  conv => whnf
  exact ⟨leA, _, rfl, rfl, h⟩
theorem event2 {st x y : Int} (hst : 128 ≤ st ∧ st < 240) (hx : 0 ≤ x ∧ x < 128) (hy : 0 ≤ y ∧ y < 128) (h : K (.returned (.agg ⟨evL 0 (evt st [x, y])⟩)) H) : callS P (fnV 37) [iv st, .string (bstr [x, y])] H K := by
  have e0 : sAt (bstr [x, y]) ((0 : Int).toNat) = x := bstr_at (d := [x, y]) (i := 0) (by simp) (by simp; omega)
  have e1 : sAt (bstr [x, y]) ((1 : Int).toNat) = y := bstr_at (d := [x, y]) (i := 1) (by simp) (by simp; omega)
  have ez := bstr_size [x, y]
  simp only [List.length_cons, List.length_nil, Nat.zero_add] at ez
  refine callS_forget ?_
  by_cases hk : (st - 112) / 16 = 2 ∧ y = 0
  · have e : evt st [x, y] = ⟨1, st % 16, x, y, .empty⟩ := by
      unfold evt
      rw [if_pos ⟨hk.1, hk.2⟩]
      rfl
    rw [e] at h
    obtain ⟨hk1, hk2⟩ := hk
    refine callS_walk tt_ok Try.func37 rfl (by kernel_rfl) ?_
    conv => whnf
    repeat' ((conv => whnf); first | rw [tdv hst] | rw [tmd hst] | rw [ez] | rw [e0] | rw [e1] | ((first | (apply vB; (case h => with_reducible assumption)) | (apply vA; (case h => with_reducible assumption)) | (apply vC; (case h => with_reducible assumption))); (case hk => exact kpA); (case he => omega)) | ((first | (apply vI; (case h => with_reducible assumption)) | (apply vG; (case h => with_reducible assumption)) | (apply vK; (case h => with_reducible assumption))); (case hk => exact kpA); (case he => omega); (case hp => omega); (case' g => intro hr_ hc_)) | ((first | (apply vJ; (case h => with_reducible assumption)) | (apply vH; (case h => with_reducible assumption)) | (apply vL; (case h => with_reducible assumption))); (case hk => exact kpA); (case he => omega); (case' g => intro hr_ hc_)) | (apply drawS_auto mixed tt_ok; (· kernel_rfl)) | apply zZ | apply yA | apply yB | ((first | apply zA | apply zC | apply zE | apply zG); (· with_reducible assumption)) | ((first | apply zB | apply zD | apply zF | apply zH); (· with_reducible assumption)) | apply zM | apply zN | apply zO | apply zP | apply zQ | apply zR | apply zS | apply zT | apply zU | (apply zV; (· omega)) | (apply zW; (· omega)) | (apply zX; (· (first | omega | (dsimp only; omega)))) | (apply zY; (try (apply zY; apply zX; (· omega))); apply zX; (· omega); apply zX; (· (first | omega | (dsimp only; omega)))) | ((first | apply yJ | apply yK | apply yL | apply yM | apply yN | apply yO); (· exact hgA); (· exact hsA)) | (apply yNP; (· exact hgA); (· exact hsA)) | ((first | apply zA | apply zC | apply zE | apply zG); (· omega)) | ((first | apply zB | apply zD | apply zF | apply zH); (· omega)) | ((first | apply zI | apply zK); (· with_reducible assumption)) | ((first | apply zJ | apply zL); (· with_reducible assumption)) | fail)
    conv => whnf
    exact ⟨leA, _, rfl, rfl, h⟩
  · have e : evt st [x, y] = ⟨(st - 112) / 16, st % 16, x, y, .empty⟩ := by
      unfold evt
      rw [if_neg (fun hh => hk ⟨hh.1, hh.2⟩)]
      rfl
    rw [e] at h
    by_cases hk1 : (st - 112) / 16 = 2
    · have hk2 : y ≠ 0 := fun hy => hk ⟨hk1, hy⟩
      refine callS_walk tt_ok Try.func37 rfl (by kernel_rfl) ?_
      conv => whnf
      repeat' ((conv => whnf); first | rw [tdv hst] | rw [tmd hst] | rw [ez] | rw [e0] | rw [e1] | ((first | (apply vB; (case h => with_reducible assumption)) | (apply vA; (case h => with_reducible assumption)) | (apply vC; (case h => with_reducible assumption))); (case hk => exact kpA); (case he => omega)) | ((first | (apply vI; (case h => with_reducible assumption)) | (apply vG; (case h => with_reducible assumption)) | (apply vK; (case h => with_reducible assumption))); (case hk => exact kpA); (case he => omega); (case hp => omega); (case' g => intro hr_ hc_)) | ((first | (apply vJ; (case h => with_reducible assumption)) | (apply vH; (case h => with_reducible assumption)) | (apply vL; (case h => with_reducible assumption))); (case hk => exact kpA); (case he => omega); (case' g => intro hr_ hc_)) | (apply drawS_auto mixed tt_ok; (· kernel_rfl)) | apply zZ | apply yA | apply yB | ((first | apply zA | apply zC | apply zE | apply zG); (· with_reducible assumption)) | ((first | apply zB | apply zD | apply zF | apply zH); (· with_reducible assumption)) | apply zM | apply zN | apply zO | apply zP | apply zQ | apply zR | apply zS | apply zT | apply zU | (apply zV; (· omega)) | (apply zW; (· omega)) | (apply zX; (· (first | omega | (dsimp only; omega)))) | (apply zY; (try (apply zY; apply zX; (· omega))); apply zX; (· omega); apply zX; (· (first | omega | (dsimp only; omega)))) | ((first | apply yJ | apply yK | apply yL | apply yM | apply yN | apply yO); (· exact hgA); (· exact hsA)) | (apply yNP; (· exact hgA); (· exact hsA)) | ((first | apply zA | apply zC | apply zE | apply zG); (· omega)) | ((first | apply zB | apply zD | apply zF | apply zH); (· omega)) | ((first | apply zI | apply zK); (· with_reducible assumption)) | ((first | apply zJ | apply zL); (· with_reducible assumption)) | fail)
      conv => whnf
      exact ⟨leA, _, rfl, rfl, h⟩
    · skip
      refine callS_walk tt_ok Try.func37 rfl (by kernel_rfl) ?_
      conv => whnf
      repeat' ((conv => whnf); first | rw [tdv hst] | rw [tmd hst] | rw [ez] | rw [e0] | rw [e1] | ((first | (apply vB; (case h => with_reducible assumption)) | (apply vA; (case h => with_reducible assumption)) | (apply vC; (case h => with_reducible assumption))); (case hk => exact kpA); (case he => omega)) | ((first | (apply vI; (case h => with_reducible assumption)) | (apply vG; (case h => with_reducible assumption)) | (apply vK; (case h => with_reducible assumption))); (case hk => exact kpA); (case he => omega); (case hp => omega); (case' g => intro hr_ hc_)) | ((first | (apply vJ; (case h => with_reducible assumption)) | (apply vH; (case h => with_reducible assumption)) | (apply vL; (case h => with_reducible assumption))); (case hk => exact kpA); (case he => omega); (case' g => intro hr_ hc_)) | (apply drawS_auto mixed tt_ok; (· kernel_rfl)) | apply zZ | apply yA | apply yB | ((first | apply zA | apply zC | apply zE | apply zG); (· with_reducible assumption)) | ((first | apply zB | apply zD | apply zF | apply zH); (· with_reducible assumption)) | apply zM | apply zN | apply zO | apply zP | apply zQ | apply zR | apply zS | apply zT | apply zU | (apply zV; (· omega)) | (apply zW; (· omega)) | (apply zX; (· (first | omega | (dsimp only; omega)))) | (apply zY; (try (apply zY; apply zX; (· omega))); apply zX; (· omega); apply zX; (· (first | omega | (dsimp only; omega)))) | ((first | apply yJ | apply yK | apply yL | apply yM | apply yN | apply yO); (· exact hgA); (· exact hsA)) | (apply yNP; (· exact hgA); (· exact hsA)) | ((first | apply zA | apply zC | apply zE | apply zG); (· omega)) | ((first | apply zB | apply zD | apply zF | apply zH); (· omega)) | ((first | apply zI | apply zK); (· with_reducible assumption)) | ((first | apply zJ | apply zL); (· with_reducible assumption)) | fail)
      conv => whnf
      exact ⟨leA, _, rfl, rfl, h⟩
end
end Go.Abs
