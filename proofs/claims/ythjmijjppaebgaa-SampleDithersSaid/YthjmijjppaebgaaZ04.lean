/- Contract of Encode, the program's. -/
import Derived.Test.YthjmijjppaebgaaY04
set_option linter.all false
set_option maxHeartbeats 2000000
set_option maxRecDepth 20000
namespace Go.Abs
open Go Go.Proofs

def pc (C N : Nat) (pl : Bool) (i : Nat) : Nat := if pl = true then i / N else i % C
def pf (C N : Nat) (pl : Bool) (i : Nat) : Nat := if pl = true then i % N else i / C
theorem pc_lt {C N i : Nat} {pl : Bool} (hC : 0 < C) (h : i < C * N) : pc C N pl i < C := by
  unfold pc
  split
  · exact Nat.div_lt_of_lt_mul (by rwa [Nat.mul_comm] at h)
  · exact Nat.mod_lt _ hC
theorem pf_lt {C N i : Nat} {pl : Bool} (h : i < C * N) : pf C N pl i < N := by
  have hN : 0 < N := by
    rcases Nat.eq_zero_or_pos N with rfl | h1
    · simp at h
    · exact h1
  unfold pf
  split
  · exact Nat.mod_lt _ hN
  · exact Nat.div_lt_of_lt_mul h
theorem places_c {y : Value} {b1 b2 b3 : Nat} {C N : Nat} {pl : Bool} {H : AHeap} {K : CK} (I : AHeap → Nat → AHeap → Prop) (hC : 1 ≤ C ∧ C ≤ 8) (hN : N ≤ 4096)
    (hI : ∀ i H1, I H i H1 → H1.get b1 = some (.cells [iv C] true 0) ∧ H1.get b2 = some (.cells [iv N] true 0) ∧ H1.get b3 = some (.cells [.bool pl] true 0)) (h0 : I H 0 H)
    (step : ∀ i H1 K1, i < C * N → I H i H1 → (∀ H2, I H (i + 1) H2 → K1 (.returned (.bool true)) H2) → callS P y [iv (pc C N pl i : Nat), iv (pf C N pl i : Nat)] H1 K1)
    (h : ∀ H', I H (C * N) H' → K (.returned (.tuple #[])) H') : callS P (.func (.func 87) #[] #[.pointer (some ⟨b1, 0, none⟩), .pointer (some ⟨b2, 0, none⟩), .pointer (some ⟨b3, 0, none⟩)]) [y] H K := by
  have hCN : C * N ≤ 8 * 4096 := Nat.mul_le_mul hC.2 hN
  have hcast : (C : Int) * (N : Int) = ((C * N : Nat) : Int) := by push_cast; rfl
  obtain ⟨g1, g2, g3⟩ := hI _ _ h0
  refine callS_walk tt_ok Try.func87 rfl (by kernel_rfl) ?_
  conv => whnf
  repeat' ((conv => whnf); first | rw [hcast] | ((first | (apply vB; (case h => with_reducible assumption)) | (apply vA; (case h => with_reducible assumption)) | (apply vC; (case h => with_reducible assumption)) | (apply vD; (case h => with_reducible assumption))); (case hk => exact kpA); (case he => omega)) | ((first | (apply vI; (case h => with_reducible assumption)) | (apply vG; (case h => with_reducible assumption)) | (apply vK; (case h => with_reducible assumption))); (case hk => exact kpA); (case he => omega); (case hp => omega); (case' g => intro hr_ hc_)) | ((first | (apply vJ; (case h => with_reducible assumption)) | (apply vH; (case h => with_reducible assumption)) | (apply vL; (case h => with_reducible assumption))); (case hk => exact kpA); (case he => omega); (case' g => intro hr_ hc_)) | (apply drawS_auto mixed tt_ok; (· kernel_rfl)) | apply zZ | apply yA | apply yB | ((first | apply zA | apply zC | apply zE | apply zG); (· with_reducible assumption)) | ((first | apply zB | apply zD | apply zF | apply zH); (· with_reducible assumption)) | apply zM | apply zN | apply zO | apply zP | apply zQ | apply zR | apply zS | apply zT | apply zU | (apply zV; (· omega)) | (apply zW; (· omega)) | (apply zX; (· (first | omega | (dsimp only; omega)))) | (apply zY; (try (apply zY; apply zX; (· omega))); apply zX; (· omega); apply zX; (· (first | omega | (dsimp only; omega)))) | ((first | apply yJ | apply yK | apply yL | apply yM | apply yN | apply yO); (· exact hgA); (· exact hsA)) | (apply yNP; (· exact hgA); (· exact hsA)) | ((first | apply zA | apply zC | apply zE | apply zG); (· omega)) | ((first | apply zB | apply zD | apply zF | apply zH); (· omega)) | ((first | apply zI | apply zK); (· with_reducible assumption)) | ((first | apply zJ | apply zL); (· with_reducible assumption)) | fail)
  conv => whnf
  refine loopS_mask tt_ok (fun (i : Nat × AHeap) => [.k, .k, .k, .k, .w, .w, .w, .w, .w, .w, .k, .p (iv i.1), .w, .w, .w, .w, .w, .w, .w, .w, .w, .w, .w, .w, .w, .w, .w, .w, .w, .w, .w, .w, .w]) (fun (i : Nat × AHeap) => i.2) (fun (i : Nat × AHeap) => i.1 ≤ C * N ∧ I H i.1 i.2) (fun (i : Nat × AHeap) => C * N - i.1) (⟨0, H⟩) (⟨by omega, h0⟩) ?_ (fun i hi => ?_)
  · conv => whnf
    refine weakH_of (HW.refl _) ?_
    repeat' (first | exact WT.nil | refine WT.same ?_ | refine WT.drop ?_ | refine WT.int (by omega) ?_ | refine WT.eq (by assumption) ?_ | refine WT.bl (by first | assumption | (symm; assumption)) ?_ | refine WT.vv (by assumption) ?_)
  obtain ⟨i, H1⟩ := i
  obtain ⟨hi, hI1⟩ := hi
  dsimp only at hi hI1 ⊢
  obtain ⟨g1, g2, g3⟩ := hI _ _ hI1
  by_cases hlt : i < C * N
  · have hN0 : 0 < N := by
      rcases Nat.eq_zero_or_pos N with rfl | h1
      · simp at hlt
      · exact h1
    have e1 : (i : Int).tmod (C : Int) = ((i % C : Nat) : Int) := by rw [Int.tmod_eq_emod_of_nonneg (by omega), Int.natCast_emod]
    have e2 : (i : Int).tdiv (C : Int) = ((i / C : Nat) : Int) := by rw [Int.tdiv_eq_ediv_of_nonneg (by omega), Int.natCast_ediv]
    have e3 : (i : Int).tmod (N : Int) = ((i % N : Nat) : Int) := by rw [Int.tmod_eq_emod_of_nonneg (by omega), Int.natCast_emod]
    have e4 : (i : Int).tdiv (N : Int) = ((i / N : Nat) : Int) := by rw [Int.tdiv_eq_ediv_of_nonneg (by omega), Int.natCast_ediv]
    have d1 : i / C ≤ i := Nat.div_le_self _ _
    have d2 : i / N ≤ i := Nat.div_le_self _ _
    have st := step i H1
    cases pl with
    | true =>
      simp only [pc, pf, if_true] at st
      generalize i / C = q1 at *
      generalize i / N = q2 at *
      generalize i % N = r2 at *
      generalize i % C = r1 at *
      repeat' ((conv => whnf); first | rw [e2] | rw [e4] | rw [e3] | refine st _ hlt hI1 (fun H2 hI2 => ?_) | ((first | (apply vB; (case h => with_reducible assumption)) | (apply vA; (case h => with_reducible assumption)) | (apply vC; (case h => with_reducible assumption)) | (apply vD; (case h => with_reducible assumption))); (case hk => exact kpA); (case he => omega)) | ((first | (apply vI; (case h => with_reducible assumption)) | (apply vG; (case h => with_reducible assumption)) | (apply vK; (case h => with_reducible assumption))); (case hk => exact kpA); (case he => omega); (case hp => omega); (case' g => intro hr_ hc_)) | ((first | (apply vJ; (case h => with_reducible assumption)) | (apply vH; (case h => with_reducible assumption)) | (apply vL; (case h => with_reducible assumption))); (case hk => exact kpA); (case he => omega); (case' g => intro hr_ hc_)) | (apply drawS_auto mixed tt_ok; (· kernel_rfl)) | apply zZ | apply yA | apply yB | ((first | apply zA | apply zC | apply zE | apply zG); (· with_reducible assumption)) | ((first | apply zB | apply zD | apply zF | apply zH); (· with_reducible assumption)) | apply zM | apply zN | apply zO | apply zP | apply zQ | apply zR | apply zS | apply zT | apply zU | (apply zV; (· omega)) | (apply zW; (· omega)) | (apply zX; (· (first | omega | (dsimp only; omega)))) | (apply zY; (try (apply zY; apply zX; (· omega))); apply zX; (· omega); apply zX; (· (first | omega | (dsimp only; omega)))) | ((first | apply yJ | apply yK | apply yL | apply yM | apply yN | apply yO); (· exact hgA); (· exact hsA)) | (apply yNP; (· exact hgA); (· exact hsA)) | ((first | apply zA | apply zC | apply zE | apply zG); (· omega)) | ((first | apply zB | apply zD | apply zF | apply zH); (· omega)) | ((first | apply zI | apply zK); (· with_reducible assumption)) | ((first | apply zJ | apply zL); (· with_reducible assumption)) | fail)
      conv => whnf
      refine ⟨(i + 1, H2), ⟨by omega, hI2⟩, by omega, ?_⟩
      conv => whnf
      refine weakH_of (HW.refl _) ?_
      repeat' (first | exact WT.nil | refine WT.same ?_ | refine WT.drop ?_ | refine WT.int (by omega) ?_ | refine WT.eq (by assumption) ?_ | refine WT.bl (by first | assumption | (symm; assumption)) ?_ | refine WT.vv (by assumption) ?_)
    | false =>
      simp only [pc, pf, Bool.false_eq_true, if_false] at st
      generalize i / C = q1 at *
      generalize i / N = q2 at *
      generalize i % N = r2 at *
      generalize i % C = r1 at *
      repeat' ((conv => whnf); first | rw [e2] | rw [e1] | refine st _ hlt hI1 (fun H2 hI2 => ?_) | ((first | (apply vB; (case h => with_reducible assumption)) | (apply vA; (case h => with_reducible assumption)) | (apply vC; (case h => with_reducible assumption)) | (apply vD; (case h => with_reducible assumption))); (case hk => exact kpA); (case he => omega)) | ((first | (apply vI; (case h => with_reducible assumption)) | (apply vG; (case h => with_reducible assumption)) | (apply vK; (case h => with_reducible assumption))); (case hk => exact kpA); (case he => omega); (case hp => omega); (case' g => intro hr_ hc_)) | ((first | (apply vJ; (case h => with_reducible assumption)) | (apply vH; (case h => with_reducible assumption)) | (apply vL; (case h => with_reducible assumption))); (case hk => exact kpA); (case he => omega); (case' g => intro hr_ hc_)) | (apply drawS_auto mixed tt_ok; (· kernel_rfl)) | apply zZ | apply yA | apply yB | ((first | apply zA | apply zC | apply zE | apply zG); (· with_reducible assumption)) | ((first | apply zB | apply zD | apply zF | apply zH); (· with_reducible assumption)) | apply zM | apply zN | apply zO | apply zP | apply zQ | apply zR | apply zS | apply zT | apply zU | (apply zV; (· omega)) | (apply zW; (· omega)) | (apply zX; (· (first | omega | (dsimp only; omega)))) | (apply zY; (try (apply zY; apply zX; (· omega))); apply zX; (· omega); apply zX; (· (first | omega | (dsimp only; omega)))) | ((first | apply yJ | apply yK | apply yL | apply yM | apply yN | apply yO); (· exact hgA); (· exact hsA)) | (apply yNP; (· exact hgA); (· exact hsA)) | ((first | apply zA | apply zC | apply zE | apply zG); (· omega)) | ((first | apply zB | apply zD | apply zF | apply zH); (· omega)) | ((first | apply zI | apply zK); (· with_reducible assumption)) | ((first | apply zJ | apply zL); (· with_reducible assumption)) | fail)
      conv => whnf
      refine ⟨(i + 1, H2), ⟨by omega, hI2⟩, by omega, ?_⟩
      conv => whnf
      refine weakH_of (HW.refl _) ?_
      repeat' (first | exact WT.nil | refine WT.same ?_ | refine WT.drop ?_ | refine WT.int (by omega) ?_ | refine WT.eq (by assumption) ?_ | refine WT.bl (by first | assumption | (symm; assumption)) ?_ | refine WT.vv (by assumption) ?_)
  · have hin : i = C * N := by omega
    subst hin
    repeat' ((conv => whnf); first | ((first | (apply vB; (case h => with_reducible assumption)) | (apply vA; (case h => with_reducible assumption)) | (apply vC; (case h => with_reducible assumption)) | (apply vD; (case h => with_reducible assumption))); (case hk => exact kpA); (case he => omega)) | ((first | (apply vI; (case h => with_reducible assumption)) | (apply vG; (case h => with_reducible assumption)) | (apply vK; (case h => with_reducible assumption))); (case hk => exact kpA); (case he => omega); (case hp => omega); (case' g => intro hr_ hc_)) | ((first | (apply vJ; (case h => with_reducible assumption)) | (apply vH; (case h => with_reducible assumption)) | (apply vL; (case h => with_reducible assumption))); (case hk => exact kpA); (case he => omega); (case' g => intro hr_ hc_)) | (apply drawS_auto mixed tt_ok; (· kernel_rfl)) | apply zZ | apply yA | apply yB | ((first | apply zA | apply zC | apply zE | apply zG); (· with_reducible assumption)) | ((first | apply zB | apply zD | apply zF | apply zH); (· with_reducible assumption)) | apply zM | apply zN | apply zO | apply zP | apply zQ | apply zR | apply zS | apply zT | apply zU | (apply zV; (· omega)) | (apply zW; (· omega)) | (apply zX; (· (first | omega | (dsimp only; omega)))) | (apply zY; (try (apply zY; apply zX; (· omega))); apply zX; (· omega); apply zX; (· (first | omega | (dsimp only; omega)))) | ((first | apply yJ | apply yK | apply yL | apply yM | apply yN | apply yO); (· exact hgA); (· exact hsA)) | (apply yNP; (· exact hgA); (· exact hsA)) | ((first | apply zA | apply zC | apply zE | apply zG); (· omega)) | ((first | apply zB | apply zD | apply zF | apply zH); (· omega)) | ((first | apply zI | apply zK); (· with_reducible assumption)) | ((first | apply zJ | apply zL); (· with_reducible assumption)) | fail)
    conv => whnf
    exact h _ hI1
def encN (e : Int) (pl : Bool) (b : List (List Int)) (n : Nat) : List Int := ((List.range n).map fun i => putL e (levF e (at2 b (pc b.length (framesB b) pl i) (pf b.length (framesB b) pl i)))).flatten
theorem putL_len {e l : Int} : (putL e l).length ≤ 4 := by
  unfold putL
  split
  · simp
  · split
    · simp
    · split
      · simp
      · split
        · simp
        · split
          · simp
          · split
            · simp
            · split
              · simp
              · simp
def encL (e : Int) (pl : Bool) (b : List (List Int)) : List Int := encN e pl b (b.length * framesB b)
def encS (e : Int) (pl : Bool) (b : List (List Int)) : ByteArray := if blockB b = true ∧ enc e then bstr (encL e pl b) else .empty
def encE (e : Int) (b : List (List Int)) : Int := if blockB b = true then if enc e then 0 else 7 else 1
theorem allU8_map : ∀ bs : List Int, allU8 (bs.map (Value.int .u8)) = true
  | [] => rfl
  | _ :: bs => allU8_map bs
theorem OBy.ne {H : AHeap} {base : Nat} {v : Value} {bs : List Int} (h : OBy H base v bs) {i : Nat} (hi : i < base) : ∀ o n c, v = .slice (some ⟨o, 0, none⟩) n c → i ≠ o := by
  intro o n c e
  rcases h with ⟨h1, _⟩ | ⟨o', h1, _, h2, _⟩
  · rw [h1] at e; cases e
  · rw [h1] at e
    injection e with e1
    injection e1 with e1
    injection e1 with e1
    omega
theorem OBy.slice {H : AHeap} {base : Nat} {v : Value} {bs : List Int} (h : OBy H base v bs) : ∃ p n c, v = .slice p n c := by
  rcases h with ⟨h1, _⟩ | ⟨o', h1, _⟩
  · exact ⟨_, _, _, h1⟩
  · exact ⟨_, _, _, h1⟩
theorem OBy.of_get {H H' : AHeap} {base : Nat} {v : Value} {bs : List Int} (h : OBy H base v bs) (hs : H.size ≤ H'.size) (hg : ∀ i, base ≤ i → i < H.size → H'.get i = H.get i) : OBy H' base v bs := by
  rcases h with h | ⟨o, h1, h2, h3, h4⟩
  · exact .inl h
  · exact .inr ⟨o, h1, (hg o h3 h4).trans h2, h3, Nat.lt_of_lt_of_le h4 hs⟩
theorem blockB_rows {m : List (List Int)} (h : blockB m = true) : (1 ≤ m.length ∧ m.length ≤ 8) ∧ ∀ r ∈ m, r.length = framesB m ∧ r.length ≤ 4096 ∧ ∀ x ∈ r, -8388607 ≤ x ∧ x ≤ 8388607 := by
  unfold blockB at h
  simp only [Bool.and_eq_true, decide_eq_true_eq] at h
  refine ⟨h.1, fun r hr => ?_⟩
  have h2 := List.all_eq_true.1 h.2 r hr
  simp only [rowOk, Bool.and_eq_true, decide_eq_true_eq] at h2
  refine ⟨h2.1.1, h2.1.2, fun x hx => ?_⟩
  have h3 := List.all_eq_true.1 h2.2 x hx
  simpa [okS] using h3
theorem frames0 {m : List (List Int)} (h : 0 < m.length) : framesB m = m[0].length := by rw [framesB, headD_eq h]

theorem cod_cases {e : Int} (he : enc e) : (∃ b g, codAt e = codV b g) ∨ codAt e = .iface 104 (.agg #[]) := by
  rcases enc_cases he with rfl | rfl | rfl | rfl | rfl | rfl | rfl | rfl
  · exact .inl ⟨_, _, rfl⟩
  · exact .inr rfl
  · exact .inl ⟨_, _, rfl⟩
  · exact .inl ⟨_, _, rfl⟩
  · exact .inl ⟨_, _, rfl⟩
  · exact .inl ⟨_, _, rfl⟩
  · exact .inl ⟨_, _, rfl⟩
  · exact .inl ⟨_, _, rfl⟩
theorem put_v {e l : Int} {w : Value} (hw : codAt e = w) (he : enc e) (hr : -2147483648 ≤ l ∧ l ≤ 2147483648) (hr2 : e = 2 → -8388607 ≤ l ∧ l ≤ 8388607) {base : Nat} {v : Value} {bs : List Int} (hl : bs.length ≤ 1000000) {H : AHeap} {K : CK} (hb : base ≤ H.size) (hv : OBy H base v bs)
    (h : ∀ H' v', Outs H H' v → Kp H H' → OBy H' base v' (bs ++ putL e l) → K (.returned v') H') : invS P w "continuo/sample.put" [v, iv l] H K := hw ▸ put_c he hr hr2 hl hb hv h
end Go.Abs
