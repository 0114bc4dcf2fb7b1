/- Contract of Encode, the program's. -/
import Derived.Test.YthjmijjppaebgaaY04
set_option linter.all false
set_option maxHeartbeats 2000000
set_option maxRecDepth 20000
namespace Go.Abs
open Go Go.Proofs

def pc (C N : Nat) (pl : Bool) (i : Nat) : Nat := if pl = true then i / N else i % C
def pf (C N : Nat) (pl : Bool) (i : Nat) : Nat := if pl = true then i % N else i / C
theorem pc_lt {C N i : Nat} {pl : Bool} (hC : 0 < C) (h : i < C * N) : pc C N pl i < C := by
  unfold pc
  split
  · exact Nat.div_lt_of_lt_mul (by rwa [Nat.mul_comm] at h)
  · exact Nat.mod_lt _ hC
theorem pf_lt {C N i : Nat} {pl : Bool} (h : i < C * N) : pf C N pl i < N := by
  have hN : 0 < N := by
    rcases Nat.eq_zero_or_pos N with rfl | h1
    · simp at h
    · exact h1
  unfold pf
  split
  · exact Nat.mod_lt _ hN
  · exact Nat.div_lt_of_lt_mul h
theorem places_c {y : Value} {b1 b2 b3 : Nat} {C N : Nat} {pl : Bool} {H : AHeap} {K : CK} (I : AHeap → Nat → AHeap → Prop) (hC : 1 ≤ C ∧ C ≤ 8) (hN : N ≤ 4096)
    (hI : ∀ i H1, I H i H1 → H1.get b1 = some (.cells [iv C] true 0) ∧ H1.get b2 = some (.cells [iv N] true 0) ∧ H1.get b3 = some (.cells [.bool pl] true 0)) (h0 : I H 0 H)
    (step : ∀ i H1 K1, i < C * N → I H i H1 → (∀ H2, I H (i + 1) H2 → K1 (.returned (.bool true)) H2) → callS P y [iv (pc C N pl i : Nat), iv (pf C N pl i : Nat)] H1 K1)
    (h : ∀ H', I H (C * N) H' → K (.returned (.tuple #[])) H') : callS P (.func (.func 87) #[] #[.pointer (some ⟨b1, 0, none⟩), .pointer (some ⟨b2, 0, none⟩), .pointer (some ⟨b3, 0, none⟩)]) [y] H K := by
  have hCN : C * N ≤ 8 * 4096 := Nat.mul_le_mul hC.2 hN
  have hcast : (C : Int) * (N : Int) = ((C * N : Nat) : Int) := by push_cast; rfl
  obtain ⟨g1, g2, g3⟩ := hI _ _ h0
  refine callS_walk tt_ok Try.func87 rfl (by kernel_rfl) ?_
  conv => whnf
  repeat' ((conv => whnf); first | rw [hcast] | ((first | (apply vB; (case h => with_reducible assumption)) | (apply vA; (case h => with_reducible assumption)) | (apply vC; (case h => with_reducible assumption)) | (apply vD; (case h => with_reducible assumption))); (case hk => exact kpA); (case he => omega)) | ((first | (apply vI; (case h => with_reducible assumption)) | (apply vG; (case h => with_reducible assumption)) | (apply vK; (case h => with_reducible assumption))); (case hk => exact kpA); (case he => omega); (case hp => omega); (case' g => intro hr_ hc_)) | ((first | (apply vJ; (case h => with_reducible assumption)) | (apply vH; (case h => with_reducible assumption)) | (apply vL; (case h => with_reducible assumption))); (case hk => exact kpA); (case he => omega); (case' g => intro hr_ hc_)) | (apply drawS_auto mixed tt_ok; (· kernel_rfl)) | apply zZ | apply yA | apply yB | ((first | apply zA | apply zC | apply zE | apply zG); (· with_reducible assumption)) | ((first | apply zB | apply zD | apply zF | apply zH); (· with_reducible assumption)) | apply zM | apply zN | apply zO | apply zP | apply zQ | apply zR | apply zS | apply zT | apply zU | (apply zV; (· omega)) | (apply zW; (· omega)) | (apply zX; (· (first | omega | (dsimp only; omega)))) | (apply zY; (try (apply zY; apply zX; (· omega))); apply zX; (· omega); apply zX; (· (first | omega | (dsimp only; omega)))) | ((first | apply yJ | apply yK | apply yL | apply yM | apply yN | apply yO); (· exact hgA); (· exact hsA)) | (apply yNP; (· exact hgA); (· exact hsA)) | ((first | apply zA | apply zC | apply zE | apply zG); (· omega)) | ((first | apply zB | apply zD | apply zF | apply zH); (· omega)) | ((first | apply zI | apply zK); (· with_reducible assumption)) | ((first | apply zJ | apply zL); (· with_reducible assumption)) | fail)
  conv => whnf
  refine loopS_mask tt_ok (fun (i : Nat × AHeap) => [.k, .k, .k, .k, .w, .w, .w, .w, .w, .w, .k, .p (iv i.1), .w, .w, .w, .w, .w, .w, .w, .w, .w, .w, .w, .w, .w, .w, .w, .w, .w, .w, .w, .w, .w]) (fun (i : Nat × AHeap) => i.2) (fun (i : Nat × AHeap) => i.1 ≤ C * N ∧ I H i.1 i.2) (fun (i : Nat × AHeap) => C * N - i.1) (⟨0, H⟩) (⟨by omega, h0⟩) ?_ (fun i hi => ?_)
  · conv => whnf
    refine weakH_of (HW.refl _) ?_
    repeat' (first | exact WT.nil | refine WT.same ?_ | refine WT.drop ?_ | refine WT.int (by omega) ?_ | refine WT.eq (by assumption) ?_ | refine WT.bl (by first | assumption | (symm; assumption)) ?_ | refine WT.vv (by assumption) ?_)
  obtain ⟨i, H1⟩ := i
  obtain ⟨hi, hI1⟩ := hi
  dsimp only at hi hI1 ⊢
  obtain ⟨g1, g2, g3⟩ := hI _ _ hI1
  by_cases hlt : i < C * N
  · have hN0 : 0 < N := by
      rcases Nat.eq_zero_or_pos N with rfl | h1
      · simp at hlt
      · exact h1
    have e1 : (i : Int).tmod (C : Int) = ((i % C : Nat) : Int) := by rw [Int.tmod_eq_emod_of_nonneg (by omega), Int.natCast_emod]
    have e2 : (i : Int).tdiv (C : Int) = ((i / C : Nat) : Int) := by rw [Int.tdiv_eq_ediv_of_nonneg (by omega), Int.natCast_ediv]
    have e3 : (i : Int).tmod (N : Int) = ((i % N : Nat) : Int) := by rw [Int.tmod_eq_emod_of_nonneg (by omega), Int.natCast_emod]
    have e4 : (i : Int).tdiv (N : Int) = ((i / N : Nat) : Int) := by rw [Int.tdiv_eq_ediv_of_nonneg (by omega), Int.natCast_ediv]
    have d1 : i / C ≤ i := Nat.div_le_self _ _
    have d2 : i / N ≤ i := Nat.div_le_self _ _
    have st := step i H1
    cases pl with
    | true =>
      simp only [pc, pf, if_true] at st
      generalize i / C = q1 at *
      generalize i / N = q2 at *
      generalize i % N = r2 at *
      generalize i % C = r1 at *
      repeat' ((conv => whnf); first | rw [e2] | rw [e4] | rw [e3] | refine st _ hlt hI1 (fun H2 hI2 => ?_) | ((first | (apply vB; (case h => with_reducible assumption)) | (apply vA; (case h => with_reducible assumption)) | (apply vC; (case h => with_reducible assumption)) | (apply vD; (case h => with_reducible assumption))); (case hk => exact kpA); (case he => omega)) | ((first | (apply vI; (case h => with_reducible assumption)) | (apply vG; (case h => with_reducible assumption)) | (apply vK; (case h => with_reducible assumption))); (case hk => exact kpA); (case he => omega); (case hp => omega); (case' g => intro hr_ hc_)) | ((first | (apply vJ; (case h => with_reducible assumption)) | (apply vH; (case h => with_reducible assumption)) | (apply vL; (case h => with_reducible assumption))); (case hk => exact kpA); (case he => omega); (case' g => intro hr_ hc_)) | (apply drawS_auto mixed tt_ok; (· kernel_rfl)) | apply zZ | apply yA | apply yB | ((first | apply zA | apply zC | apply zE | apply zG); (· with_reducible assumption)) | ((first | apply zB | apply zD | apply zF | apply zH); (· with_reducible assumption)) | apply zM | apply zN | apply zO | apply zP | apply zQ | apply zR | apply zS | apply zT | apply zU | (apply zV; (· omega)) | (apply zW; (· omega)) | (apply zX; (· (first | omega | (dsimp only; omega)))) | (apply zY; (try (apply zY; apply zX; (· omega))); apply zX; (· omega); apply zX; (· (first | omega | (dsimp only; omega)))) | ((first | apply yJ | apply yK | apply yL | apply yM | apply yN | apply yO); (· exact hgA); (· exact hsA)) | (apply yNP; (· exact hgA); (· exact hsA)) | ((first | apply zA | apply zC | apply zE | apply zG); (· omega)) | ((first | apply zB | apply zD | apply zF | apply zH); (· omega)) | ((first | apply zI | apply zK); (· with_reducible assumption)) | ((first | apply zJ | apply zL); (· with_reducible assumption)) | fail)
      conv => whnf
      refine ⟨(i + 1, H2), ⟨by omega, hI2⟩, by omega, ?_⟩
      conv => whnf
      refine weakH_of (HW.refl _) ?_
      repeat' (first | exact WT.nil | refine WT.same ?_ | refine WT.drop ?_ | refine WT.int (by omega) ?_ | refine WT.eq (by assumption) ?_ | refine WT.bl (by first | assumption | (symm; assumption)) ?_ | refine WT.vv (by assumption) ?_)
    | false =>
      simp only [pc, pf, Bool.false_eq_true, if_false] at st
      generalize i / C = q1 at *
      generalize i / N = q2 at *
      generalize i % N = r2 at *
      generalize i % C = r1 at *
      repeat' ((conv => whnf); first | rw [e2] | rw [e1] | refine st _ hlt hI1 (fun H2 hI2 => ?_) | ((first | (apply vB; (case h => with_reducible assumption)) | (apply vA; (case h => with_reducible assumption)) | (apply vC; (case h => with_reducible assumption)) | (apply vD; (case h => with_reducible assumption))); (case hk => exact kpA); (case he => omega)) | ((first | (apply vI; (case h => with_reducible assumption)) | (apply vG; (case h => with_reducible assumption)) | (apply vK; (case h => with_reducible assumption))); (case hk => exact kpA); (case he => omega); (case hp => omega); (case' g => intro hr_ hc_)) | ((first | (apply vJ; (case h => with_reducible assumption)) | (apply vH; (case h => with_reducible assumption)) | (apply vL; (case h => with_reducible assumption))); (case hk => exact kpA); (case he => omega); (case' g => intro hr_ hc_)) | (apply drawS_auto mixed tt_ok; (· kernel_rfl)) | apply zZ | apply yA | apply yB | ((first | apply zA | apply zC | apply zE | apply zG); (· with_reducible assumption)) | ((first | apply zB | apply zD | apply zF | apply zH); (· with_reducible assumption)) | apply zM | apply zN | apply zO | apply zP | apply zQ | apply zR | apply zS | apply zT | apply zU | (apply zV; (· omega)) | (apply zW; (· omega)) | (apply zX; (· (first | omega | (dsimp only; omega)))) | (apply zY; (try (apply zY; apply zX; (· omega))); apply zX; (· omega); apply zX; (· (first | omega | (dsimp only; omega)))) | ((first | apply yJ | apply yK | apply yL | apply yM | apply yN | apply yO); (· exact hgA); (· exact hsA)) | (apply yNP; (· exact hgA); (· exact hsA)) | ((first | apply zA | apply zC | apply zE | apply zG); (· omega)) | ((first | apply zB | apply zD | apply zF | apply zH); (· omega)) | ((first | apply zI | apply zK); (· with_reducible assumption)) | ((first | apply zJ | apply zL); (· with_reducible assumption)) | fail)
      conv => whnf
      refine ⟨(i + 1, H2), ⟨by omega, hI2⟩, by omega, ?_⟩
      conv => whnf
      refine weakH_of (HW.refl _) ?_
      repeat' (first | exact WT.nil | refine WT.same ?_ | refine WT.drop ?_ | refine WT.int (by omega) ?_ | refine WT.eq (by assumption) ?_ | refine WT.bl (by first | assumption | (symm; assumption)) ?_ | refine WT.vv (by assumption) ?_)
  · have hin : i = C * N := by omega
    subst hin
    repeat' ((conv => whnf); first | ((first | (apply vB; (case h => with_reducible assumption)) | (apply vA; (case h => with_reducible assumption)) | (apply vC; (case h => with_reducible assumption)) | (apply vD; (case h => with_reducible assumption))); (case hk => exact kpA); (case he => omega)) | ((first | (apply vI; (case h => with_reducible assumption)) | (apply vG; (case h => with_reducible assumption)) | (apply vK; (case h => with_reducible assumption))); (case hk => exact kpA); (case he => omega); (case hp => omega); (case' g => intro hr_ hc_)) | ((first | (apply vJ; (case h => with_reducible assumption)) | (apply vH; (case h => with_reducible assumption)) | (apply vL; (case h => with_reducible assumption))); (case hk => exact kpA); (case he => omega); (case' g => intro hr_ hc_)) | (apply drawS_auto mixed tt_ok; (· kernel_rfl)) | apply zZ | apply yA | apply yB | ((first | apply zA | apply zC | apply zE | apply zG); (· with_reducible assumption)) | ((first | apply zB | apply zD | apply zF | apply zH); (· with_reducible assumption)) | apply zM | apply zN | apply zO | apply zP | apply zQ | apply zR | apply zS | apply zT | apply zU | (apply zV; (· omega)) | (apply zW; (· omega)) | (apply zX; (· (first | omega | (dsimp only; omega)))) | (apply zY; (try (apply zY; apply zX; (· omega))); apply zX; (· omega); apply zX; (· (first | omega | (dsimp only; omega)))) | ((first | apply yJ | apply yK | apply yL | apply yM | apply yN | apply yO); (· exact hgA); (· exact hsA)) | (apply yNP; (· exact hgA); (· exact hsA)) | ((first | apply zA | apply zC | apply zE | apply zG); (· omega)) | ((first | apply zB | apply zD | apply zF | apply zH); (· omega)) | ((first | apply zI | apply zK); (· with_reducible assumption)) | ((first | apply zJ | apply zL); (· with_reducible assumption)) | fail)
    conv => whnf
    exact h _ hI1
def encN (e : Int) (pl : Bool) (b : List (List Int)) (n : Nat) : List Int := ((List.range n).map fun i => putL e (levF e (at2 b (pc b.length (framesB b) pl i) (pf b.length (framesB b) pl i)))).flatten
theorem encN_succ (e : Int) (pl : Bool) (b : List (List Int)) (n : Nat) : encN e pl b (n + 1) = encN e pl b n ++ putL e (levF e (at2 b (pc b.length (framesB b) pl n) (pf b.length (framesB b) pl n))) := by
  simp [encN, List.range_succ]
theorem putL_len {e l : Int} : (putL e l).length ≤ 4 := by
  unfold putL
  split
  · simp
  · split
    · simp
    · split
      · simp
      · split
        · simp
        · split
          · simp
          · split
            · simp
            · split
              · simp
              · simp
theorem encN_len (e : Int) (pl : Bool) (b : List (List Int)) : ∀ n, (encN e pl b n).length ≤ 4 * n
  | 0 => by simp [encN]
  | n + 1 => by
    have := encN_len e pl b n
    have h2 := putL_len (e := e) (l := levF e (at2 b (pc b.length (framesB b) pl n) (pf b.length (framesB b) pl n)))
    rw [encN_succ, List.length_append]
    omega
def encL (e : Int) (pl : Bool) (b : List (List Int)) : List Int := encN e pl b (b.length * framesB b)
def encS (e : Int) (pl : Bool) (b : List (List Int)) : ByteArray := if blockB b = true ∧ enc e then bstr (encL e pl b) else .empty
def encE (e : Int) (b : List (List Int)) : Int := if blockB b = true then if enc e then 0 else 7 else 1
theorem levF_bd {e x : Int} (hx : inS x) : (-2147483648 ≤ levF e x ∧ levF e x ≤ 2147483648) ∧ (e = 2 → -8388607 ≤ levF e x ∧ levF e x ≤ 8388607) := by
  have hm := maxF_bd e
  unfold levF
  refine ⟨?_, fun he => ?_⟩
  · split
    · omega
    · split <;> omega
  · subst he
    have hm2 : maxF 2 = 127 := by unfold maxF; rfl
    rw [if_neg (by omega), if_neg (by omega), hm2]
    omega
theorem allU8_map : ∀ bs : List Int, allU8 (bs.map (Value.int .u8)) = true
  | [] => rfl
  | _ :: bs => allU8_map bs
theorem OBy.ne {H : AHeap} {base : Nat} {v : Value} {bs : List Int} (h : OBy H base v bs) {i : Nat} (hi : i < base) : ∀ o n c, v = .slice (some ⟨o, 0, none⟩) n c → i ≠ o := by
  intro o n c e
  rcases h with ⟨h1, _⟩ | ⟨o', h1, _, h2, _⟩
  · rw [h1] at e; cases e
  · rw [h1] at e
    injection e with e1
    injection e1 with e1
    injection e1 with e1
    omega
theorem OBy.slice {H : AHeap} {base : Nat} {v : Value} {bs : List Int} (h : OBy H base v bs) : ∃ p n c, v = .slice p n c := by
  rcases h with ⟨h1, _⟩ | ⟨o', h1, _⟩
  · exact ⟨_, _, _, h1⟩
  · exact ⟨_, _, _, h1⟩
theorem OBy.of_get {H H' : AHeap} {base : Nat} {v : Value} {bs : List Int} (h : OBy H base v bs) (hs : H.size ≤ H'.size) (hg : ∀ i, base ≤ i → i < H.size → H'.get i = H.get i) : OBy H' base v bs := by
  rcases h with h | ⟨o, h1, h2, h3, h4⟩
  · exact .inl h
  · exact .inr ⟨o, h1, (hg o h3 h4).trans h2, h3, Nat.lt_of_lt_of_le h4 hs⟩
theorem blockB_rows {m : List (List Int)} (h : blockB m = true) : (1 ≤ m.length ∧ m.length ≤ 8) ∧ ∀ r ∈ m, r.length = framesB m ∧ r.length ≤ 4096 ∧ ∀ x ∈ r, -8388607 ≤ x ∧ x ≤ 8388607 := by
  unfold blockB at h
  simp only [Bool.and_eq_true, decide_eq_true_eq] at h
  refine ⟨h.1, fun r hr => ?_⟩
  have h2 := List.all_eq_true.1 h.2 r hr
  simp only [rowOk, Bool.and_eq_true, decide_eq_true_eq] at h2
  refine ⟨h2.1.1, h2.1.2, fun x hx => ?_⟩
  have h3 := List.all_eq_true.1 h2.2 x hx
  simpa [okS] using h3
theorem frames0 {m : List (List Int)} (h : 0 < m.length) : framesB m = m[0].length := by rw [framesB, headD_eq h]

theorem cod_cases {e : Int} (he : enc e) : (∃ b g, codAt e = codV b g) ∨ codAt e = .iface 104 (.agg #[]) := by
  rcases enc_cases he with rfl | rfl | rfl | rfl | rfl | rfl | rfl | rfl
  · exact .inl ⟨_, _, rfl⟩
  · exact .inr rfl
  · exact .inl ⟨_, _, rfl⟩
  · exact .inl ⟨_, _, rfl⟩
  · exact .inl ⟨_, _, rfl⟩
  · exact .inl ⟨_, _, rfl⟩
  · exact .inl ⟨_, _, rfl⟩
  · exact .inl ⟨_, _, rfl⟩
theorem level_v {e x : Int} {w : Value} (hw : codAt e = w) (he : enc e) (hx : inS x) {H : AHeap} {K : CK} (h : K (.returned (iv (levF e x))) H) : callS P (fnV 52) [w, iv x] H K := hw ▸ level_c he hx h
theorem put_v {e l : Int} {w : Value} (hw : codAt e = w) (he : enc e) (hr : -2147483648 ≤ l ∧ l ≤ 2147483648) (hr2 : e = 2 → -8388607 ≤ l ∧ l ≤ 8388607) {base : Nat} {v : Value} {bs : List Int} (hl : bs.length ≤ 1000000) {H : AHeap} {K : CK} (hb : base ≤ H.size) (hv : OBy H base v bs)
    (h : ∀ H' v', Outs H H' v → Kp H H' → OBy H' base v' (bs ++ putL e l) → K (.returned v') H') : invS P w "continuo/sample.put" [v, iv l] H K := hw ▸ put_c he hr hr2 hl hb hv h
theorem encode_c {e : Int} {pl : Bool} {p : Option Addr} {c : Nat} {b : List (List Int)} {H : AHeap} {K : CK} (hb : Mat H p b) (h : ∀ H', H.le H' → K (.returned (.tuple #[.string (encS e pl b), iv (encE e b)])) H') : callS P (fnV 23) [iv e, .bool pl, .slice p b.length c] H K := by
  unfold encS encE at h
  cases hv : blockB b with
  | false =>
    rw [if_neg (by rw [hv]; simp), if_neg (by rw [hv]; simp)] at h
    refine callS_walk tt_ok Try.func23 rfl (by kernel_rfl) ?_
    conv => whnf
    repeat' ((conv => whnf); first | (apply layValid_v; (· exact mtA); (· with_reducible assumption)) | ((first | (apply vB; (case h => with_reducible assumption)) | (apply vA; (case h => with_reducible assumption)) | (apply vC; (case h => with_reducible assumption))); (case hk => exact kpA); (case he => omega)) | ((first | (apply vI; (case h => with_reducible assumption)) | (apply vG; (case h => with_reducible assumption)) | (apply vK; (case h => with_reducible assumption))); (case hk => exact kpA); (case he => omega); (case hp => omega); (case' g => intro hr_ hc_)) | ((first | (apply vJ; (case h => with_reducible assumption)) | (apply vH; (case h => with_reducible assumption)) | (apply vL; (case h => with_reducible assumption))); (case hk => exact kpA); (case he => omega); (case' g => intro hr_ hc_)) | (apply drawS_auto mixed tt_ok; (· kernel_rfl)) | apply zZ | apply yA | apply yB | ((first | apply zA | apply zC | apply zE | apply zG); (· with_reducible assumption)) | ((first | apply zB | apply zD | apply zF | apply zH); (· with_reducible assumption)) | apply zM | apply zN | apply zO | apply zP | apply zQ | apply zR | apply zS | apply zT | apply zU | (apply zV; (· omega)) | (apply zW; (· omega)) | (apply zX; (· (first | omega | (dsimp only; omega)))) | (apply zY; (try (apply zY; apply zX; (· omega))); apply zX; (· omega); apply zX; (· (first | omega | (dsimp only; omega)))) | ((first | apply yJ | apply yK | apply yL | apply yM | apply yN | apply yO); (· exact hgA); (· exact hsA)) | (apply yNP; (· exact hgA); (· exact hsA)) | ((first | apply zA | apply zC | apply zE | apply zG); (· omega)) | ((first | apply zB | apply zD | apply zF | apply zH); (· omega)) | ((first | apply zI | apply zK); (· with_reducible assumption)) | ((first | apply zJ | apply zL); (· with_reducible assumption)) | ((first | apply xA | apply xC | apply xE | apply xG); (· first | assumption | rfl)) | ((first | apply xB | apply xD | apply xF | apply xH); (· first | assumption | kernel_rfl)) | fail)
    conv => whnf
    exact h _ leA
  | true =>
    rw [if_pos hv] at h
    by_cases he : enc e
    · rw [if_pos ⟨hv, he⟩, if_pos he] at h
      obtain ⟨⟨hb1, hb8⟩, hbr⟩ := blockB_rows hv
      have hb0 : 0 < b.length := hb1
      have hfr := frames0 hb0
      have hL4 := (hbr b[0] (List.getElem_mem _)).2.1
      obtain ⟨i0, off, rfl⟩ := hb.at hb0
      rcases cod_cases he with ⟨cb, cg, hcod⟩ | hcod
      · skip
        refine callS_walk tt_ok Try.func23 rfl (by kernel_rfl) ?_
        conv => whnf
        repeat' ((conv => whnf); first | (apply layValid_v; (· exact mtA); (· with_reducible assumption)) | (apply known_t; (· with_reducible assumption)) | (apply codings_c) | (refine loadK_cod he ?_ ?_; (· exact hgA); rw [hcod]) | (refine callS_walk tt_ok Try.func60 rfl (by kernel_rfl) ?_) | ((first | (apply vB; (case h => with_reducible assumption)) | (apply vA; (case h => with_reducible assumption)) | (apply vC; (case h => with_reducible assumption))); (case hk => exact kpA); (case he => omega)) | ((first | (apply vI; (case h => with_reducible assumption)) | (apply vG; (case h => with_reducible assumption)) | (apply vK; (case h => with_reducible assumption))); (case hk => exact kpA); (case he => omega); (case hp => omega); (case' g => intro hr_ hc_)) | ((first | (apply vJ; (case h => with_reducible assumption)) | (apply vH; (case h => with_reducible assumption)) | (apply vL; (case h => with_reducible assumption))); (case hk => exact kpA); (case he => omega); (case' g => intro hr_ hc_)) | (apply drawS_auto mixed tt_ok; (· kernel_rfl)) | apply zZ | apply yA | apply yB | ((first | apply zA | apply zC | apply zE | apply zG); (· with_reducible assumption)) | ((first | apply zB | apply zD | apply zF | apply zH); (· with_reducible assumption)) | apply zM | apply zN | apply zO | apply zP | apply zQ | apply zR | apply zS | apply zT | apply zU | (apply zV; (· omega)) | (apply zW; (· omega)) | (apply zX; (· (first | omega | (dsimp only; omega)))) | (apply zY; (try (apply zY; apply zX; (· omega))); apply zX; (· omega); apply zX; (· (first | omega | (dsimp only; omega)))) | ((first | apply yJ | apply yK | apply yL | apply yM | apply yN | apply yO); (· exact hgA); (· exact hsA)) | (apply yNP; (· exact hgA); (· exact hsA)) | ((first | apply zA | apply zC | apply zE | apply zG); (· omega)) | ((first | apply zB | apply zD | apply zF | apply zH); (· omega)) | ((first | apply zI | apply zK); (· with_reducible assumption)) | ((first | apply zJ | apply zL); (· with_reducible assumption)) | ((first | apply xA | apply xC | apply xE | apply xG); (· first | assumption | rfl)) | ((first | apply xB | apply xD | apply xF | apply xH); (· first | assumption | kernel_rfl)) | fail)
        conv => whnf
        refine places_c (C := b.length) (N := b[0].length) (pl := pl) (I := fun Hb i HH => Hb.size ≤ HH.size ∧ (∀ j, j < Hb.size → j ≠ H.size + 3 → HH.get j = Hb.get j) ∧ ∃ v, HH.get (H.size + 3) = some (.cells [v] true 0) ∧ OBy HH (H.size + 9) v (encN e pl b i)) ⟨hb1, hb8⟩ (by omega) ?_ ?_ ?_ ?_
        · rintro i HH ⟨hs, hsame, _⟩
          exact ⟨(hsame (H.size + 4) hoA (by omega)).trans hgA, (hsame (H.size + 5) hoA (by omega)).trans hgA, (hsame (H.size + 6) hoA (by omega)).trans hgA⟩
        · exact ⟨Nat.le_refl _, fun _ _ _ => rfl, _, hgA, .inl ⟨rfl, rfl⟩⟩
        · rintro i HH K1 hi ⟨hs, hsame, v, gv, hov⟩ hK
          have hs' : H.size + 9 ≤ HH.size := hs
          have gl : HH.get (H.size + 8) = some (.loop _) := (hsame (H.size + 8) hoA (by omega)).trans hgA
          have gb : HH.get H.size = some (.cells [.slice (some ⟨i0, off, none⟩) b.length c] true 0) := (hsame H.size hoA (by omega)).trans hgA
          have gk : HH.get (H.size + 2) = some (.cells [_] true 0) := (hsame (H.size + 2) hoA (by omega)).trans hgA
          have hleH : H.le HH := ⟨by omega, fun j hj => (hsame j hoA (by omega)).trans (AHeap.le.get leA j hj)⟩
          have hkp := hleH.kp
          have hpc := pc_lt (pl := pl) (by omega : 0 < b.length) hi
          have hpf := pf_lt (C := b.length) (pl := pl) hi
          have hen := encN_succ e pl b i
          have hlen := encN_len e pl b i
          have hmul : b.length * b[0].length ≤ 8 * 4096 := Nat.mul_le_mul hb8 hL4
          rw [hfr] at hen
          generalize pc b.length b[0].length pl i = ci at *
          generalize pf b.length b[0].length pl i = fi at *
          have hbl := (hbr b[ci] (List.getElem_mem _)).1
          have hfi : fi < b[ci].length := by omega
          have hx := (hbr b[ci] (List.getElem_mem _)).2.2 b[ci][fi] (List.getElem_mem _)
          rw [at2_eq hpc hfi] at hen
          obtain ⟨hl1, hl2⟩ := levF_bd (e := e) hx
          have hne3 := hov.ne (i := H.size + 3) (by omega)
          have hne8 := hov.ne (i := H.size + 8) (by omega)
          refine callS_round tt_ok ?_
          repeat' ((conv => whnf); first | refine level_v hcod he hx ?_ | (refine put_v (base := H.size + 9) hcod he hl1 hl2 ?_ ?_ (hov.of_get hoA (fun i h1 h2 => AHeap.set_ne _ _ hoA)) (fun H2 v2 ho hk hov2 => ?_); (· omega); (· exact hoA); (have gv2 : H2.get (H.size + 3) = some (.cells [v] true 0) := (ho.get _ hoA hne3).trans hgA); (have gl2 := (ho.get (H.size + 8) hoA hne8).trans hgA); (have hz2 : HH.size ≤ H2.size := ho.size); (obtain ⟨p2, n2, c2, e2⟩ := hov2.slice); (subst e2)) | ((first | (apply vB; (case h => with_reducible assumption)) | (apply vA; (case h => with_reducible assumption)) | (apply vC; (case h => with_reducible assumption))); (case hk => exact kpA); (case he => omega)) | ((first | (apply vI; (case h => with_reducible assumption)) | (apply vG; (case h => with_reducible assumption)) | (apply vK; (case h => with_reducible assumption))); (case hk => exact kpA); (case he => omega); (case hp => omega); (case' g => intro hr_ hc_)) | ((first | (apply vJ; (case h => with_reducible assumption)) | (apply vH; (case h => with_reducible assumption)) | (apply vL; (case h => with_reducible assumption))); (case hk => exact kpA); (case he => omega); (case' g => intro hr_ hc_)) | (apply drawS_auto mixed tt_ok; (· kernel_rfl)) | apply zZ | apply yA | apply yB | ((first | apply zA | apply zC | apply zE | apply zG); (· with_reducible assumption)) | ((first | apply zB | apply zD | apply zF | apply zH); (· with_reducible assumption)) | apply zM | apply zN | apply zO | apply zP | apply zQ | apply zR | apply zS | apply zT | apply zU | (apply zV; (· omega)) | (apply zW; (· omega)) | (apply zX; (· (first | omega | (dsimp only; omega)))) | (apply zY; (try (apply zY; apply zX; (· omega))); apply zX; (· omega); apply zX; (· (first | omega | (dsimp only; omega)))) | ((first | apply yJ | apply yK | apply yL | apply yM | apply yN | apply yO); (· exact hgA); (· exact hsA)) | (apply yNP; (· exact hgA); (· exact hsA)) | ((first | apply zA | apply zC | apply zE | apply zG); (· omega)) | ((first | apply zB | apply zD | apply zF | apply zH); (· omega)) | ((first | apply zI | apply zK); (· with_reducible assumption)) | ((first | apply zJ | apply zL); (· with_reducible assumption)) | ((first | apply xA | apply xC | apply xE | apply xG); (· first | assumption | rfl)) | ((first | apply xB | apply xD | apply xF | apply xH); (· first | assumption | kernel_rfl)) | fail)
          conv => whnf
          refine hK _ ⟨hoA, fun j hj hj3 => ?_, _, hgA, ?_⟩
          · have hj2 : j < H.size + 9 := hj
            by_cases hl : j = H.size + 8
            · subst hl
              exact Eq.trans hgA (Eq.symm hgA)
            · (repeat (first | exact ((ho.get j hoA (hov.ne (by omega))).trans ((AHeap.set_ne _ _ hoA).trans (hsame j hj hj3))) | (refine (yR _ _ ?_).trans ?_; (· exact hoA)) | (refine (yS _ _ ?_).trans ?_; (· exact hoA)) | (refine (yT _ ?_).trans ?_; (· exact hoA))))
          · rw [hen]
            exact hov2.of_get hoA (fun j h1 h2 => by (repeat (first | exact rfl | (refine (yR _ _ ?_).trans ?_; (· exact hoA)) | (refine (yS _ _ ?_).trans ?_; (· exact hoA)) | (refine (yT _ ?_).trans ?_; (· exact hoA)))))
        · rintro HH ⟨hs, hsame, v, gv, hov⟩
          have hs' : H.size + 9 ≤ HH.size := hs
          have gl : HH.get (H.size + 8) = some (.loop _) := (hsame (H.size + 8) hoA (by omega)).trans hgA
          have gd : HH.get (H.size + 7) = some (.deferred []) := (hsame (H.size + 7) hoA (by omega)).trans hgA
          have hleH : H.le HH := ⟨by omega, fun j hj => (hsame j hoA (by omega)).trans (AHeap.le.get leA j hj)⟩
          have hEn : encL e pl b = encN e pl b (b.length * b[0].length) := by unfold encL; rw [hfr]
          rw [hEn] at h
          rcases hov with ⟨rfl, hn0⟩ | ⟨o, rfl, hoo, ho1, ho2⟩
          · rw [hn0] at h
            repeat' ((conv => whnf); first | ((first | (apply vB; (case h => with_reducible assumption)) | (apply vA; (case h => with_reducible assumption)) | (apply vC; (case h => with_reducible assumption))); (case hk => exact kpA); (case he => omega)) | ((first | (apply vI; (case h => with_reducible assumption)) | (apply vG; (case h => with_reducible assumption)) | (apply vK; (case h => with_reducible assumption))); (case hk => exact kpA); (case he => omega); (case hp => omega); (case' g => intro hr_ hc_)) | ((first | (apply vJ; (case h => with_reducible assumption)) | (apply vH; (case h => with_reducible assumption)) | (apply vL; (case h => with_reducible assumption))); (case hk => exact kpA); (case he => omega); (case' g => intro hr_ hc_)) | (apply drawS_auto mixed tt_ok; (· kernel_rfl)) | apply zZ | apply yA | apply yB | ((first | apply zA | apply zC | apply zE | apply zG); (· with_reducible assumption)) | ((first | apply zB | apply zD | apply zF | apply zH); (· with_reducible assumption)) | apply zM | apply zN | apply zO | apply zP | apply zQ | apply zR | apply zS | apply zT | apply zU | (apply zV; (· omega)) | (apply zW; (· omega)) | (apply zX; (· (first | omega | (dsimp only; omega)))) | (apply zY; (try (apply zY; apply zX; (· omega))); apply zX; (· omega); apply zX; (· (first | omega | (dsimp only; omega)))) | ((first | apply yJ | apply yK | apply yL | apply yM | apply yN | apply yO); (· exact hgA); (· exact hsA)) | (apply yNP; (· exact hgA); (· exact hsA)) | ((first | apply zA | apply zC | apply zE | apply zG); (· omega)) | ((first | apply zB | apply zD | apply zF | apply zH); (· omega)) | ((first | apply zI | apply zK); (· with_reducible assumption)) | ((first | apply zJ | apply zL); (· with_reducible assumption)) | ((first | apply xA | apply xC | apply xE | apply xG); (· first | assumption | rfl)) | ((first | apply xB | apply xD | apply xF | apply xH); (· first | assumption | kernel_rfl)) | fail)
            conv => whnf
            exact h _ leA
          · skip
            repeat' ((conv => whnf); first | rw [List.drop_zero, List.take_of_length_le (by simp), allU8_map] | ((first | (apply vB; (case h => with_reducible assumption)) | (apply vA; (case h => with_reducible assumption)) | (apply vC; (case h => with_reducible assumption))); (case hk => exact kpA); (case he => omega)) | ((first | (apply vI; (case h => with_reducible assumption)) | (apply vG; (case h => with_reducible assumption)) | (apply vK; (case h => with_reducible assumption))); (case hk => exact kpA); (case he => omega); (case hp => omega); (case' g => intro hr_ hc_)) | ((first | (apply vJ; (case h => with_reducible assumption)) | (apply vH; (case h => with_reducible assumption)) | (apply vL; (case h => with_reducible assumption))); (case hk => exact kpA); (case he => omega); (case' g => intro hr_ hc_)) | (apply drawS_auto mixed tt_ok; (· kernel_rfl)) | apply zZ | apply yA | apply yB | ((first | apply zA | apply zC | apply zE | apply zG); (· with_reducible assumption)) | ((first | apply zB | apply zD | apply zF | apply zH); (· with_reducible assumption)) | apply zM | apply zN | apply zO | apply zP | apply zQ | apply zR | apply zS | apply zT | apply zU | (apply zV; (· omega)) | (apply zW; (· omega)) | (apply zX; (· (first | omega | (dsimp only; omega)))) | (apply zY; (try (apply zY; apply zX; (· omega))); apply zX; (· omega); apply zX; (· (first | omega | (dsimp only; omega)))) | ((first | apply yJ | apply yK | apply yL | apply yM | apply yN | apply yO); (· exact hgA); (· exact hsA)) | (apply yNP; (· exact hgA); (· exact hsA)) | ((first | apply zA | apply zC | apply zE | apply zG); (· omega)) | ((first | apply zB | apply zD | apply zF | apply zH); (· omega)) | ((first | apply zI | apply zK); (· with_reducible assumption)) | ((first | apply zJ | apply zL); (· with_reducible assumption)) | ((first | apply xA | apply xC | apply xE | apply xG); (· first | assumption | rfl)) | ((first | apply xB | apply xD | apply xF | apply xH); (· first | assumption | kernel_rfl)) | fail)
            conv => whnf
            exact h _ leA
      · skip
        refine callS_walk tt_ok Try.func23 rfl (by kernel_rfl) ?_
        conv => whnf
        repeat' ((conv => whnf); first | (apply layValid_v; (· exact mtA); (· with_reducible assumption)) | (apply known_t; (· with_reducible assumption)) | (apply codings_c) | (refine loadK_cod he ?_ ?_; (· exact hgA); rw [hcod]) | (refine callS_walk tt_ok Try.func60 rfl (by kernel_rfl) ?_) | ((first | (apply vB; (case h => with_reducible assumption)) | (apply vA; (case h => with_reducible assumption)) | (apply vC; (case h => with_reducible assumption))); (case hk => exact kpA); (case he => omega)) | ((first | (apply vI; (case h => with_reducible assumption)) | (apply vG; (case h => with_reducible assumption)) | (apply vK; (case h => with_reducible assumption))); (case hk => exact kpA); (case he => omega); (case hp => omega); (case' g => intro hr_ hc_)) | ((first | (apply vJ; (case h => with_reducible assumption)) | (apply vH; (case h => with_reducible assumption)) | (apply vL; (case h => with_reducible assumption))); (case hk => exact kpA); (case he => omega); (case' g => intro hr_ hc_)) | (apply drawS_auto mixed tt_ok; (· kernel_rfl)) | apply zZ | apply yA | apply yB | ((first | apply zA | apply zC | apply zE | apply zG); (· with_reducible assumption)) | ((first | apply zB | apply zD | apply zF | apply zH); (· with_reducible assumption)) | apply zM | apply zN | apply zO | apply zP | apply zQ | apply zR | apply zS | apply zT | apply zU | (apply zV; (· omega)) | (apply zW; (· omega)) | (apply zX; (· (first | omega | (dsimp only; omega)))) | (apply zY; (try (apply zY; apply zX; (· omega))); apply zX; (· omega); apply zX; (· (first | omega | (dsimp only; omega)))) | ((first | apply yJ | apply yK | apply yL | apply yM | apply yN | apply yO); (· exact hgA); (· exact hsA)) | (apply yNP; (· exact hgA); (· exact hsA)) | ((first | apply zA | apply zC | apply zE | apply zG); (· omega)) | ((first | apply zB | apply zD | apply zF | apply zH); (· omega)) | ((first | apply zI | apply zK); (· with_reducible assumption)) | ((first | apply zJ | apply zL); (· with_reducible assumption)) | ((first | apply xA | apply xC | apply xE | apply xG); (· first | assumption | rfl)) | ((first | apply xB | apply xD | apply xF | apply xH); (· first | assumption | kernel_rfl)) | fail)
        conv => whnf
        refine places_c (C := b.length) (N := b[0].length) (pl := pl) (I := fun Hb i HH => Hb.size ≤ HH.size ∧ (∀ j, j < Hb.size → j ≠ H.size + 3 → HH.get j = Hb.get j) ∧ ∃ v, HH.get (H.size + 3) = some (.cells [v] true 0) ∧ OBy HH (H.size + 9) v (encN e pl b i)) ⟨hb1, hb8⟩ (by omega) ?_ ?_ ?_ ?_
        · rintro i HH ⟨hs, hsame, _⟩
          exact ⟨(hsame (H.size + 4) hoA (by omega)).trans hgA, (hsame (H.size + 5) hoA (by omega)).trans hgA, (hsame (H.size + 6) hoA (by omega)).trans hgA⟩
        · exact ⟨Nat.le_refl _, fun _ _ _ => rfl, _, hgA, .inl ⟨rfl, rfl⟩⟩
        · rintro i HH K1 hi ⟨hs, hsame, v, gv, hov⟩ hK
          have hs' : H.size + 9 ≤ HH.size := hs
          have gl : HH.get (H.size + 8) = some (.loop _) := (hsame (H.size + 8) hoA (by omega)).trans hgA
          have gb : HH.get H.size = some (.cells [.slice (some ⟨i0, off, none⟩) b.length c] true 0) := (hsame H.size hoA (by omega)).trans hgA
          have gk : HH.get (H.size + 2) = some (.cells [_] true 0) := (hsame (H.size + 2) hoA (by omega)).trans hgA
          have hleH : H.le HH := ⟨by omega, fun j hj => (hsame j hoA (by omega)).trans (AHeap.le.get leA j hj)⟩
          have hkp := hleH.kp
          have hpc := pc_lt (pl := pl) (by omega : 0 < b.length) hi
          have hpf := pf_lt (C := b.length) (pl := pl) hi
          have hen := encN_succ e pl b i
          have hlen := encN_len e pl b i
          have hmul : b.length * b[0].length ≤ 8 * 4096 := Nat.mul_le_mul hb8 hL4
          rw [hfr] at hen
          generalize pc b.length b[0].length pl i = ci at *
          generalize pf b.length b[0].length pl i = fi at *
          have hbl := (hbr b[ci] (List.getElem_mem _)).1
          have hfi : fi < b[ci].length := by omega
          have hx := (hbr b[ci] (List.getElem_mem _)).2.2 b[ci][fi] (List.getElem_mem _)
          rw [at2_eq hpc hfi] at hen
          obtain ⟨hl1, hl2⟩ := levF_bd (e := e) hx
          have hne3 := hov.ne (i := H.size + 3) (by omega)
          have hne8 := hov.ne (i := H.size + 8) (by omega)
          refine callS_round tt_ok ?_
          repeat' ((conv => whnf); first | refine level_v hcod he hx ?_ | (refine put_v (base := H.size + 9) hcod he hl1 hl2 ?_ ?_ (hov.of_get hoA (fun i h1 h2 => AHeap.set_ne _ _ hoA)) (fun H2 v2 ho hk hov2 => ?_); (· omega); (· exact hoA); (have gv2 : H2.get (H.size + 3) = some (.cells [v] true 0) := (ho.get _ hoA hne3).trans hgA); (have gl2 := (ho.get (H.size + 8) hoA hne8).trans hgA); (have hz2 : HH.size ≤ H2.size := ho.size); (obtain ⟨p2, n2, c2, e2⟩ := hov2.slice); (subst e2)) | ((first | (apply vB; (case h => with_reducible assumption)) | (apply vA; (case h => with_reducible assumption)) | (apply vC; (case h => with_reducible assumption))); (case hk => exact kpA); (case he => omega)) | ((first | (apply vI; (case h => with_reducible assumption)) | (apply vG; (case h => with_reducible assumption)) | (apply vK; (case h => with_reducible assumption))); (case hk => exact kpA); (case he => omega); (case hp => omega); (case' g => intro hr_ hc_)) | ((first | (apply vJ; (case h => with_reducible assumption)) | (apply vH; (case h => with_reducible assumption)) | (apply vL; (case h => with_reducible assumption))); (case hk => exact kpA); (case he => omega); (case' g => intro hr_ hc_)) | (apply drawS_auto mixed tt_ok; (· kernel_rfl)) | apply zZ | apply yA | apply yB | ((first | apply zA | apply zC | apply zE | apply zG); (· with_reducible assumption)) | ((first | apply zB | apply zD | apply zF | apply zH); (· with_reducible assumption)) | apply zM | apply zN | apply zO | apply zP | apply zQ | apply zR | apply zS | apply zT | apply zU | (apply zV; (· omega)) | (apply zW; (· omega)) | (apply zX; (· (first | omega | (dsimp only; omega)))) | (apply zY; (try (apply zY; apply zX; (· omega))); apply zX; (· omega); apply zX; (· (first | omega | (dsimp only; omega)))) | ((first | apply yJ | apply yK | apply yL | apply yM | apply yN | apply yO); (· exact hgA); (· exact hsA)) | (apply yNP; (· exact hgA); (· exact hsA)) | ((first | apply zA | apply zC | apply zE | apply zG); (· omega)) | ((first | apply zB | apply zD | apply zF | apply zH); (· omega)) | ((first | apply zI | apply zK); (· with_reducible assumption)) | ((first | apply zJ | apply zL); (· with_reducible assumption)) | ((first | apply xA | apply xC | apply xE | apply xG); (· first | assumption | rfl)) | ((first | apply xB | apply xD | apply xF | apply xH); (· first | assumption | kernel_rfl)) | fail)
          conv => whnf
          refine hK _ ⟨hoA, fun j hj hj3 => ?_, _, hgA, ?_⟩
          · have hj2 : j < H.size + 9 := hj
            by_cases hl : j = H.size + 8
            · subst hl
              exact Eq.trans hgA (Eq.symm hgA)
            · (repeat (first | exact ((ho.get j hoA (hov.ne (by omega))).trans ((AHeap.set_ne _ _ hoA).trans (hsame j hj hj3))) | (refine (yR _ _ ?_).trans ?_; (· exact hoA)) | (refine (yS _ _ ?_).trans ?_; (· exact hoA)) | (refine (yT _ ?_).trans ?_; (· exact hoA))))
          · rw [hen]
            exact hov2.of_get hoA (fun j h1 h2 => by (repeat (first | exact rfl | (refine (yR _ _ ?_).trans ?_; (· exact hoA)) | (refine (yS _ _ ?_).trans ?_; (· exact hoA)) | (refine (yT _ ?_).trans ?_; (· exact hoA)))))
        · rintro HH ⟨hs, hsame, v, gv, hov⟩
          have hs' : H.size + 9 ≤ HH.size := hs
          have gl : HH.get (H.size + 8) = some (.loop _) := (hsame (H.size + 8) hoA (by omega)).trans hgA
          have gd : HH.get (H.size + 7) = some (.deferred []) := (hsame (H.size + 7) hoA (by omega)).trans hgA
          have hleH : H.le HH := ⟨by omega, fun j hj => (hsame j hoA (by omega)).trans (AHeap.le.get leA j hj)⟩
          have hEn : encL e pl b = encN e pl b (b.length * b[0].length) := by unfold encL; rw [hfr]
          rw [hEn] at h
          rcases hov with ⟨rfl, hn0⟩ | ⟨o, rfl, hoo, ho1, ho2⟩
          · rw [hn0] at h
            repeat' ((conv => whnf); first | ((first | (apply vB; (case h => with_reducible assumption)) | (apply vA; (case h => with_reducible assumption)) | (apply vC; (case h => with_reducible assumption))); (case hk => exact kpA); (case he => omega)) | ((first | (apply vI; (case h => with_reducible assumption)) | (apply vG; (case h => with_reducible assumption)) | (apply vK; (case h => with_reducible assumption))); (case hk => exact kpA); (case he => omega); (case hp => omega); (case' g => intro hr_ hc_)) | ((first | (apply vJ; (case h => with_reducible assumption)) | (apply vH; (case h => with_reducible assumption)) | (apply vL; (case h => with_reducible assumption))); (case hk => exact kpA); (case he => omega); (case' g => intro hr_ hc_)) | (apply drawS_auto mixed tt_ok; (· kernel_rfl)) | apply zZ | apply yA | apply yB | ((first | apply zA | apply zC | apply zE | apply zG); (· with_reducible assumption)) | ((first | apply zB | apply zD | apply zF | apply zH); (· with_reducible assumption)) | apply zM | apply zN | apply zO | apply zP | apply zQ | apply zR | apply zS | apply zT | apply zU | (apply zV; (· omega)) | (apply zW; (· omega)) | (apply zX; (· (first | omega | (dsimp only; omega)))) | (apply zY; (try (apply zY; apply zX; (· omega))); apply zX; (· omega); apply zX; (· (first | omega | (dsimp only; omega)))) | ((first | apply yJ | apply yK | apply yL | apply yM | apply yN | apply yO); (· exact hgA); (· exact hsA)) | (apply yNP; (· exact hgA); (· exact hsA)) | ((first | apply zA | apply zC | apply zE | apply zG); (· omega)) | ((first | apply zB | apply zD | apply zF | apply zH); (· omega)) | ((first | apply zI | apply zK); (· with_reducible assumption)) | ((first | apply zJ | apply zL); (· with_reducible assumption)) | ((first | apply xA | apply xC | apply xE | apply xG); (· first | assumption | rfl)) | ((first | apply xB | apply xD | apply xF | apply xH); (· first | assumption | kernel_rfl)) | fail)
            conv => whnf
            exact h _ leA
          · skip
            repeat' ((conv => whnf); first | rw [List.drop_zero, List.take_of_length_le (by simp), allU8_map] | ((first | (apply vB; (case h => with_reducible assumption)) | (apply vA; (case h => with_reducible assumption)) | (apply vC; (case h => with_reducible assumption))); (case hk => exact kpA); (case he => omega)) | ((first | (apply vI; (case h => with_reducible assumption)) | (apply vG; (case h => with_reducible assumption)) | (apply vK; (case h => with_reducible assumption))); (case hk => exact kpA); (case he => omega); (case hp => omega); (case' g => intro hr_ hc_)) | ((first | (apply vJ; (case h => with_reducible assumption)) | (apply vH; (case h => with_reducible assumption)) | (apply vL; (case h => with_reducible assumption))); (case hk => exact kpA); (case he => omega); (case' g => intro hr_ hc_)) | (apply drawS_auto mixed tt_ok; (· kernel_rfl)) | apply zZ | apply yA | apply yB | ((first | apply zA | apply zC | apply zE | apply zG); (· with_reducible assumption)) | ((first | apply zB | apply zD | apply zF | apply zH); (· with_reducible assumption)) | apply zM | apply zN | apply zO | apply zP | apply zQ | apply zR | apply zS | apply zT | apply zU | (apply zV; (· omega)) | (apply zW; (· omega)) | (apply zX; (· (first | omega | (dsimp only; omega)))) | (apply zY; (try (apply zY; apply zX; (· omega))); apply zX; (· omega); apply zX; (· (first | omega | (dsimp only; omega)))) | ((first | apply yJ | apply yK | apply yL | apply yM | apply yN | apply yO); (· exact hgA); (· exact hsA)) | (apply yNP; (· exact hgA); (· exact hsA)) | ((first | apply zA | apply zC | apply zE | apply zG); (· omega)) | ((first | apply zB | apply zD | apply zF | apply zH); (· omega)) | ((first | apply zI | apply zK); (· with_reducible assumption)) | ((first | apply zJ | apply zL); (· with_reducible assumption)) | ((first | apply xA | apply xC | apply xE | apply xG); (· first | assumption | rfl)) | ((first | apply xB | apply xD | apply xF | apply xH); (· first | assumption | kernel_rfl)) | fail)
            conv => whnf
            exact h _ leA
    · rw [if_neg (fun hh => he hh.2), if_neg he] at h
      refine callS_walk tt_ok Try.func23 rfl (by kernel_rfl) ?_
      conv => whnf
      repeat' ((conv => whnf); first | (apply layValid_v; (· exact mtA); (· with_reducible assumption)) | (apply known_f; (· with_reducible assumption)) | ((first | (apply vB; (case h => with_reducible assumption)) | (apply vA; (case h => with_reducible assumption)) | (apply vC; (case h => with_reducible assumption))); (case hk => exact kpA); (case he => omega)) | ((first | (apply vI; (case h => with_reducible assumption)) | (apply vG; (case h => with_reducible assumption)) | (apply vK; (case h => with_reducible assumption))); (case hk => exact kpA); (case he => omega); (case hp => omega); (case' g => intro hr_ hc_)) | ((first | (apply vJ; (case h => with_reducible assumption)) | (apply vH; (case h => with_reducible assumption)) | (apply vL; (case h => with_reducible assumption))); (case hk => exact kpA); (case he => omega); (case' g => intro hr_ hc_)) | (apply drawS_auto mixed tt_ok; (· kernel_rfl)) | apply zZ | apply yA | apply yB | ((first | apply zA | apply zC | apply zE | apply zG); (· with_reducible assumption)) | ((first | apply zB | apply zD | apply zF | apply zH); (· with_reducible assumption)) | apply zM | apply zN | apply zO | apply zP | apply zQ | apply zR | apply zS | apply zT | apply zU | (apply zV; (· omega)) | (apply zW; (· omega)) | (apply zX; (· (first | omega | (dsimp only; omega)))) | (apply zY; (try (apply zY; apply zX; (· omega))); apply zX; (· omega); apply zX; (· (first | omega | (dsimp only; omega)))) | ((first | apply yJ | apply yK | apply yL | apply yM | apply yN | apply yO); (· exact hgA); (· exact hsA)) | (apply yNP; (· exact hgA); (· exact hsA)) | ((first | apply zA | apply zC | apply zE | apply zG); (· omega)) | ((first | apply zB | apply zD | apply zF | apply zH); (· omega)) | ((first | apply zI | apply zK); (· with_reducible assumption)) | ((first | apply zJ | apply zL); (· with_reducible assumption)) | ((first | apply xA | apply xC | apply xE | apply xG); (· first | assumption | rfl)) | ((first | apply xB | apply xD | apply xF | apply xH); (· first | assumption | kernel_rfl)) | fail)
      conv => whnf
      exact h _ leA
end Go.Abs
