/- Events with frames in memory; the program's Decode and the reference's. No conditions beyond those stated. -/
import Derived.Test.YtbmbabgkpcnppaaD10c
set_option linter.all false
set_option maxHeartbeats 2000000
set_option maxRecDepth 20000
namespace Go.Abs
open Go Go.Proofs

abbrev FE := Int × Ev
def flatFE : List FE → List Value
  | [] => []
  | e :: es => evL e.1 e.2 ++ flatFE es
theorem flatFE_app : ∀ a b : List FE, flatFE (a ++ b) = flatFE a ++ flatFE b
  | [], b => rfl
  | e :: es, b => by simp [flatFE, flatFE_app es b]
theorem flatFE_one (e : FE) : flatFE [e] = evL e.1 e.2 := by simp [flatFE]
theorem flatFE_len : ∀ es : List FE, (flatFE es).length = es.length * 6
  | [] => rfl
  | e :: es => by simp [flatFE, evL, flatFE_len es]; omega
def OFE (H : AHeap) (base : Nat) (v : Value) (es : List FE) : Prop :=
  (v = .slice none 0 0 ∧ es = []) ∨ ∃ o, v = .slice (some ⟨o, 0, none⟩) es.length es.length ∧ H.get o = some (.cells (flatFE es) true 6) ∧ base ≤ o ∧ o < H.size
theorem own_fe {H : AHeap} {o upto : Nat} {es : List FE} {p : Prop} (g : H.get o = some (.cells (flatFE es) true 6)) (hu : upto = es.length * 6) (hp : p) : ownK H o 6 upto p := ownK_of g (by rw [flatFE_len]; omega) hp
theorem lds_fe {H : AHeap} {o off n : Nat} {es : List FE} {K : List Value → Prop} (g : H.get o = some (.cells (flatFE es) true 6)) (h0 : off = 0) (hn : n = es.length * 6) (hK : K (flatFE es)) : loadsK H o off n K := by
  subst h0
  exact loadsK_all g (by rw [flatFE_len]; exact hn) hK
theorem OFE.keep {H H1 : AHeap} {base : Nat} {v : Value} {es : List FE} (h : OFE H base v es) (hg : ∀ j, j < H.size → base ≤ j → (∀ es', H.get j = some (.cells (flatFE es') true 6) → H1.get j = H.get j)) (hs : H.size ≤ H1.size) : OFE H1 base v es := by
  rcases h with h | ⟨o, h1, h2, h3, h4⟩
  · exact .inl h
  · exact .inr ⟨o, h1, (hg o h4 h3 _ h2).trans h2, h3, Nat.lt_of_lt_of_le h4 hs⟩
theorem fe_part : ∀ {es : List FE} {k : Nat} (hk : k < es.length), ((flatFE es).drop (k * 6)).take 6 = evL es[k].1 es[k].2
  | e :: es, 0, _ => by simp [flatFE, evL]
  | e :: es, k + 1, hk => by
    have h := fe_part (es := es) (k := k) (by simpa using hk)
    rw [show (k + 1) * 6 = 6 + k * 6 by omega]
    show ((evL e.1 e.2 ++ flatFE es).drop (6 + k * 6)).take 6 = evL (es[k]'(by simpa using hk)).1 (es[k]'(by simpa using hk)).2
    rw [List.drop_append, show (evL e.1 e.2).length = 6 from rfl, show 6 + k * 6 - 6 = k * 6 by omega, List.drop_eq_nil_of_le (show (evL e.1 e.2).length ≤ 6 + k * 6 by show 6 ≤ _; omega), List.nil_append]
    exact h
/-! what Decode answers -/
structure DR where
  out : List FE
  at_ : Int
  e : Int
def decR (s : ByteArray) : Nat → Nat → MS → List FE → DR
  | 0, _, S, out => if S.beg = 0 then ⟨out, 0, 0⟩ else ⟨out, s.size, 12⟩
  | n + 1, i, S, out => match stepS (sAt s i) S with
    | (_, _, true) => ⟨out, i, 12⟩
    | (S', none, false) => decR s n (i + 1) S' out
    | (S', some e, false) => if out.length = 2000 then ⟨[], 0, 4⟩ else decR s n (i + 1) S' (out ++ [(0, e)])
def decS (s : ByteArray) (snt : Bool) : DR := if 65536 < s.size then ⟨[], 0, 3⟩ else decR s s.size 0 ⟨0, 0, snt, []⟩ []
structure DSt where
  i : Nat
  H : AHeap
  po : Nat
  br : Bool
  pv : Value
  v : Value
  S : MS
  out : List FE
structure DInv (H : AHeap) (s : ByteArray) (R : DR) (r : DSt) : Prop where
  le : r.i ≤ s.size
  hle : H.le r.H
  m : MachP r.H H.size r.po r.br r.pv r.S []
  p : H.size ≤ r.po
  o : OFE r.H (H.size + 1) r.v r.out
  ok : OkS r.S
  n : r.out.length ≤ 2000
  e : decR s (s.size - r.i) r.i r.S r.out = R
theorem dec_next {s : ByteArray} {i : Nat} (h : i < s.size) {S : MS} {out : List FE} : decR s (s.size - i) i S out = match stepS (sAt s i) S with
    | (_, _, true) => ⟨out, i, 12⟩
    | (S', none, false) => decR s (s.size - (i + 1)) (i + 1) S' out
    | (S', some e, false) => if out.length = 2000 then ⟨[], 0, 4⟩ else decR s (s.size - (i + 1)) (i + 1) S' (out ++ [(0, e)]) := by
  rw [show s.size - i = (s.size - (i + 1)) + 1 by omega]
  rfl
theorem le_mfr {H H1 H2 : AHeap} {mb a b : Nat} (h : H.le H1) (g : MFr H1 H2 mb a b) (hm : H.size ≤ mb) (ha : H.size ≤ a) : H.le H2 :=
  ⟨Nat.le_trans h.size g.size, fun j hj => (g.get j (Nat.lt_of_lt_of_le hj h.size) (by omega) (by omega)).trans (h.get j hj)⟩
theorem part_nf {H : AHeap} {mb po o : Nat} {br : Bool} {pv : Value} {S : MS} {rest : List Value} {es : List FE} (h : MachP H mb po br pv S rest) (hm : o ≠ mb) (g : H.get o = some (.cells (flatFE es) true 6)) : o ≠ po := part_ne h hm g
section
variable {H : AHeap} {K : CK}
theorem decode_c {s : ByteArray} (h : ∀ H' v, H.le H' → OFE H' H.size v (decS s false).out → K (.returned (.tuple #[v, iv (decS s false).at_, iv (decS s false).e])) H') : callS P (fnV 16) [.string s] H K := by
  by_cases hl : 65536 < s.size
  · have e : decS s false = ⟨[], 0, 3⟩ := by unfold decS; rw [if_pos hl]
    rw [e] at h
    refine callS_walk tt_ok Try.func16 rfl (by kernel_rfl) ?_
    conv => whnf
    repeat' ((conv => whnf); first | ((first | (apply vB; (case h => with_reducible assumption)) | (apply vA; (case h => with_reducible assumption)) | (apply vC; (case h => with_reducible assumption))); (case hk => exact kpA); (case he => omega)) | ((first | (apply vI; (case h => with_reducible assumption)) | (apply vG; (case h => with_reducible assumption)) | (apply vK; (case h => with_reducible assumption))); (case hk => exact kpA); (case he => omega); (case hp => omega); (case' g => intro hr_ hc_)) | ((first | (apply vJ; (case h => with_reducible assumption)) | (apply vH; (case h => with_reducible assumption)) | (apply vL; (case h => with_reducible assumption))); (case hk => exact kpA); (case he => omega); (case' g => intro hr_ hc_)) | (apply drawS_auto mixed tt_ok; (· kernel_rfl)) | apply zZ | apply yA | apply yB | ((first | apply zA | apply zC | apply zE | apply zG); (· with_reducible assumption)) | ((first | apply zB | apply zD | apply zF | apply zH); (· with_reducible assumption)) | apply zM | apply zN | apply zO | apply zP | apply zQ | apply zR | apply zS | apply zT | apply zU | (apply zV; (· omega)) | (apply zW; (· omega)) | (apply zX; (· (first | omega | (dsimp only; omega)))) | (apply zY; (try (apply zY; apply zX; (· omega))); apply zX; (· omega); apply zX; (· (first | omega | (dsimp only; omega)))) | ((first | apply yJ | apply yK | apply yL | apply yM | apply yN | apply yO); (· exact hgA); (· exact hsA)) | (apply yNP; (· exact hgA); (· exact hsA)) | ((first | apply zA | apply zC | apply zE | apply zG); (· omega)) | ((first | apply zB | apply zD | apply zF | apply zH); (· omega)) | ((first | apply zI | apply zK); (· with_reducible assumption)) | ((first | apply zJ | apply zL); (· with_reducible assumption)) | fail)
    conv => whnf
    exact h _ _ leA (.inl ⟨rfl, rfl⟩)
  · have e : decS s false = decR s s.size 0 ⟨0, 0, false, []⟩ [] := by unfold decS; rw [if_neg hl]
    rw [e] at h
    generalize hR : decR s s.size 0 ⟨0, 0, false, []⟩ [] = R at h
    refine callS_walk tt_ok Try.func16 rfl (by kernel_rfl) ?_
    conv => whnf
    repeat' ((conv => whnf); first | ((first | (apply vB; (case h => with_reducible assumption)) | (apply vA; (case h => with_reducible assumption)) | (apply vC; (case h => with_reducible assumption))); (case hk => exact kpA); (case he => omega)) | ((first | (apply vI; (case h => with_reducible assumption)) | (apply vG; (case h => with_reducible assumption)) | (apply vK; (case h => with_reducible assumption))); (case hk => exact kpA); (case he => omega); (case hp => omega); (case' g => intro hr_ hc_)) | ((first | (apply vJ; (case h => with_reducible assumption)) | (apply vH; (case h => with_reducible assumption)) | (apply vL; (case h => with_reducible assumption))); (case hk => exact kpA); (case he => omega); (case' g => intro hr_ hc_)) | (apply drawS_auto mixed tt_ok; (· kernel_rfl)) | apply zZ | apply yA | apply yB | ((first | apply zA | apply zC | apply zE | apply zG); (· with_reducible assumption)) | ((first | apply zB | apply zD | apply zF | apply zH); (· with_reducible assumption)) | apply zM | apply zN | apply zO | apply zP | apply zQ | apply zR | apply zS | apply zT | apply zU | (apply zV; (· omega)) | (apply zW; (· omega)) | (apply zX; (· (first | omega | (dsimp only; omega)))) | (apply zY; (try (apply zY; apply zX; (· omega))); apply zX; (· omega); apply zX; (· (first | omega | (dsimp only; omega)))) | ((first | apply yJ | apply yK | apply yL | apply yM | apply yN | apply yO); (· exact hgA); (· exact hsA)) | (apply yNP; (· exact hgA); (· exact hsA)) | ((first | apply zA | apply zC | apply zE | apply zG); (· omega)) | ((first | apply zB | apply zD | apply zF | apply zH); (· omega)) | ((first | apply zI | apply zK); (· with_reducible assumption)) | ((first | apply zJ | apply zL); (· with_reducible assumption)) | fail)
    conv => whnf
    apply loopS_mask tt_ok (fun (r : DSt) => [.k, .w, .p (r.v), .w, .w, .k, .w, .w, .w, .w, .w, .w, .w, .w, .k, .p (iv r.i), .w, .w, .w, .w, .w, .w, .w, .w, .w, .w, .w, .w, .w, .w, .w, .w, .w, .w, .w, .w, .w, .w, .w, .w, .w, .w, .w, .w, .w, .w, .w, .w, .w, .w, .w, .w]) (fun (r : DSt) => r.H) (fun (r : DSt) => DInv H s R r) (fun (r : DSt) => s.size - r.i) (⟨0, _, H.size, false, .slice none 0 0, .slice none 0 0, ⟨0, 0, false, []⟩, []⟩)
    case hst =>
      conv => whnf
      refine weakH_of (HW.refl _) ?_
      repeat' (first | exact WT.nil | refine WT.same ?_ | refine WT.drop ?_ | refine WT.int (by omega) ?_ | refine WT.eq (by assumption) ?_ | refine WT.bl (by first | assumption | (symm; assumption)) ?_ | refine WT.vv (by assumption) ?_)
    case h0 => exact ⟨Nat.zero_le _, by dsimp only; exact leA, ⟨by dsimp only; exact hgA, by dsimp only; exact hoA, fun h1 _ => absurd rfl h1, .inl ⟨rfl, rfl, rfl⟩⟩, Nat.le_refl _, .inl ⟨rfl, rfl⟩, ok_fresh _, by simp, hR⟩
    intro r hr
    obtain ⟨i, HH, p1, br1, pv1, v, S, out⟩ := r
    obtain ⟨hi, hle, hM1, hp, hov, hok, hn, he⟩ := hr
    dsimp only at hi hle hM1 hp hov hok hn he ⊢
    have hlt1 := hM1.lt
    have hp1 := hM1.plt
    by_cases hin : i < s.size
    · have hcb := sAt_bd s i
      have hcb2 : 0 ≤ sAt s ((i : Int).toNat) ∧ sAt s ((i : Int).toNat) < 256 := by rw [Int.toNat_natCast]; exact hcb
      rw [dec_next hin] at he
      rcases hst : stepS (sAt s i) S with ⟨S2, o2, w2⟩
      have hst2 : stepS (sAt s ((i : Int).toNat)) S = (S2, o2, w2) := by rw [Int.toNat_natCast]; exact hst
      have hok2 : OkS S2 := by have := ok_step hok hcb; rw [hst] at this; exact this
      rw [hst] at he
      cases w2 with
      | true =>
        subst he
        repeat' ((conv => whnf); first | refine take_v hst2 hM1 hok hcb2 (fun H2 p2 br2 pv2 hf2 hM2 => ?_); (have hz2 : HH.size ≤ H2.size := hf2.size); (have hle2 := le_mfr hle hf2 (Nat.le_refl _) hp) | ((first | (apply vB; (case h => with_reducible assumption)) | (apply vA; (case h => with_reducible assumption)) | (apply vC; (case h => with_reducible assumption))); (case hk => exact kpA); (case he => omega)) | ((first | (apply vI; (case h => with_reducible assumption)) | (apply vG; (case h => with_reducible assumption)) | (apply vK; (case h => with_reducible assumption))); (case hk => exact kpA); (case he => omega); (case hp => omega); (case' g => intro hr_ hc_)) | ((first | (apply vJ; (case h => with_reducible assumption)) | (apply vH; (case h => with_reducible assumption)) | (apply vL; (case h => with_reducible assumption))); (case hk => exact kpA); (case he => omega); (case' g => intro hr_ hc_)) | (apply drawS_auto mixed tt_ok; (· kernel_rfl)) | apply zZ | apply yA | apply yB | ((first | apply zA | apply zC | apply zE | apply zG); (· with_reducible assumption)) | ((first | apply zB | apply zD | apply zF | apply zH); (· with_reducible assumption)) | apply zM | apply zN | apply zO | apply zP | apply zQ | apply zR | apply zS | apply zT | apply zU | (apply zV; (· omega)) | (apply zW; (· omega)) | (apply zX; (· (first | omega | (dsimp only; omega)))) | (apply zY; (try (apply zY; apply zX; (· omega))); apply zX; (· omega); apply zX; (· (first | omega | (dsimp only; omega)))) | ((first | apply yJ | apply yK | apply yL | apply yM | apply yN | apply yO); (· exact hgA); (· exact hsA)) | (apply yNP; (· exact hgA); (· exact hsA)) | ((first | apply zA | apply zC | apply zE | apply zG); (· omega)) | ((first | apply zB | apply zD | apply zF | apply zH); (· omega)) | ((first | apply zI | apply zK); (· with_reducible assumption)) | ((first | apply zJ | apply zL); (· with_reducible assumption)) | fail)
        conv => whnf
        refine h _ _ ?_ ?_
        · exact leA
        · exact (hov.keep (fun j h1 h2 es g => Eq.trans hgA (hf2.get j h1 (by omega) (part_nf hM1 (by omega) g))) hoA).imp id fun ⟨o, a, b, c, d⟩ => ⟨o, a, b, by omega, d⟩
      | false =>
        cases o2 with
        | none =>
          skip
          repeat' ((conv => whnf); first | refine take_v hst2 hM1 hok hcb2 (fun H2 p2 br2 pv2 hf2 hM2 => ?_); (have hz2 : HH.size ≤ H2.size := hf2.size); (have hle2 := le_mfr hle hf2 (Nat.le_refl _) hp); (have hp2 := hf2.po) | ((first | (apply vB; (case h => with_reducible assumption)) | (apply vA; (case h => with_reducible assumption)) | (apply vC; (case h => with_reducible assumption))); (case hk => exact kpA); (case he => omega)) | ((first | (apply vI; (case h => with_reducible assumption)) | (apply vG; (case h => with_reducible assumption)) | (apply vK; (case h => with_reducible assumption))); (case hk => exact kpA); (case he => omega); (case hp => omega); (case' g => intro hr_ hc_)) | ((first | (apply vJ; (case h => with_reducible assumption)) | (apply vH; (case h => with_reducible assumption)) | (apply vL; (case h => with_reducible assumption))); (case hk => exact kpA); (case he => omega); (case' g => intro hr_ hc_)) | (apply drawS_auto mixed tt_ok; (· kernel_rfl)) | apply zZ | apply yA | apply yB | ((first | apply zA | apply zC | apply zE | apply zG); (· with_reducible assumption)) | ((first | apply zB | apply zD | apply zF | apply zH); (· with_reducible assumption)) | apply zM | apply zN | apply zO | apply zP | apply zQ | apply zR | apply zS | apply zT | apply zU | (apply zV; (· omega)) | (apply zW; (· omega)) | (apply zX; (· (first | omega | (dsimp only; omega)))) | (apply zY; (try (apply zY; apply zX; (· omega))); apply zX; (· omega); apply zX; (· (first | omega | (dsimp only; omega)))) | ((first | apply yJ | apply yK | apply yL | apply yM | apply yN | apply yO); (· exact hgA); (· exact hsA)) | (apply yNP; (· exact hgA); (· exact hsA)) | ((first | apply zA | apply zC | apply zE | apply zG); (· omega)) | ((first | apply zB | apply zD | apply zF | apply zH); (· omega)) | ((first | apply zI | apply zK); (· with_reducible assumption)) | ((first | apply zJ | apply zL); (· with_reducible assumption)) | fail)
          conv => whnf
          apply Exists.intro (⟨i + 1, _, p2, br2, pv2, v, S2, out⟩ : DSt)
          refine ⟨?inv, ?mu, ?wk⟩
          case wk =>
            conv => whnf
            refine weakH_of (HW.refl _) ?_
            repeat' (first | exact WT.nil | refine WT.same ?_ | refine WT.drop ?_ | refine WT.int (by omega) ?_ | refine WT.eq (by assumption) ?_ | refine WT.bl (by first | assumption | (symm; assumption)) ?_ | refine WT.vv (by assumption) ?_)
          case mu => first | omega | (dsimp only; omega)
          case inv => exact ⟨by dsimp only; omega, by dsimp only; exact leA, by dsimp only; exact hM2.keep hoA (fun j h1 h2 => hgA), by dsimp only; omega, by dsimp only; exact hov.keep (fun j h1 h2 es g => Eq.trans hgA (hf2.get j h1 (by omega) (part_nf hM1 (by omega) g))) hoA, hok2, hn, he⟩
        | some e2 =>
          by_cases hn2 : out.length = 2000
          · dsimp only at he
            rw [if_pos hn2] at he
            subst he
            rcases hov with ⟨rfl, hoe⟩ | ⟨ob, rfl, go, ho1, ho2⟩
            · rw [hoe] at hn2; simp at hn2
            · skip
              repeat' ((conv => whnf); first | refine take_v hst2 hM1 hok hcb2 (fun H2 p2 br2 pv2 hf2 hM2 => ?_); (have hz2 : HH.size ≤ H2.size := hf2.size); (have hle2 := le_mfr hle hf2 (Nat.le_refl _) hp) | ((first | (apply vB; (case h => with_reducible assumption)) | (apply vA; (case h => with_reducible assumption)) | (apply vC; (case h => with_reducible assumption))); (case hk => exact kpA); (case he => omega)) | ((first | (apply vI; (case h => with_reducible assumption)) | (apply vG; (case h => with_reducible assumption)) | (apply vK; (case h => with_reducible assumption))); (case hk => exact kpA); (case he => omega); (case hp => omega); (case' g => intro hr_ hc_)) | ((first | (apply vJ; (case h => with_reducible assumption)) | (apply vH; (case h => with_reducible assumption)) | (apply vL; (case h => with_reducible assumption))); (case hk => exact kpA); (case he => omega); (case' g => intro hr_ hc_)) | (apply drawS_auto mixed tt_ok; (· kernel_rfl)) | apply zZ | apply yA | apply yB | ((first | apply zA | apply zC | apply zE | apply zG); (· with_reducible assumption)) | ((first | apply zB | apply zD | apply zF | apply zH); (· with_reducible assumption)) | apply zM | apply zN | apply zO | apply zP | apply zQ | apply zR | apply zS | apply zT | apply zU | (apply zV; (· omega)) | (apply zW; (· omega)) | (apply zX; (· (first | omega | (dsimp only; omega)))) | (apply zY; (try (apply zY; apply zX; (· omega))); apply zX; (· omega); apply zX; (· (first | omega | (dsimp only; omega)))) | ((first | apply yJ | apply yK | apply yL | apply yM | apply yN | apply yO); (· exact hgA); (· exact hsA)) | (apply yNP; (· exact hgA); (· exact hsA)) | ((first | apply zA | apply zC | apply zE | apply zG); (· omega)) | ((first | apply zB | apply zD | apply zF | apply zH); (· omega)) | ((first | apply zI | apply zK); (· with_reducible assumption)) | ((first | apply zJ | apply zL); (· with_reducible assumption)) | fail)
              conv => whnf
              exact h _ _ leA (.inl ⟨rfl, rfl⟩)
          · dsimp only at he
            rw [if_neg hn2] at he
            rcases hov with ⟨rfl, hoe⟩ | ⟨ob, rfl, go, ho1, ho2⟩
            · subst hoe
              repeat' ((conv => whnf); first | refine take_v hst2 hM1 hok hcb2 (fun H2 p2 br2 pv2 hf2 hM2 => ?_); (have hz2 : HH.size ≤ H2.size := hf2.size); (have hle2 := le_mfr hle hf2 (Nat.le_refl _) hp); (have hp2 := hf2.po) | ((first | (apply vB; (case h => with_reducible assumption)) | (apply vA; (case h => with_reducible assumption)) | (apply vC; (case h => with_reducible assumption))); (case hk => exact kpA); (case he => omega)) | ((first | (apply vI; (case h => with_reducible assumption)) | (apply vG; (case h => with_reducible assumption)) | (apply vK; (case h => with_reducible assumption))); (case hk => exact kpA); (case he => omega); (case hp => omega); (case' g => intro hr_ hc_)) | ((first | (apply vJ; (case h => with_reducible assumption)) | (apply vH; (case h => with_reducible assumption)) | (apply vL; (case h => with_reducible assumption))); (case hk => exact kpA); (case he => omega); (case' g => intro hr_ hc_)) | (apply drawS_auto mixed tt_ok; (· kernel_rfl)) | apply zZ | apply yA | apply yB | ((first | apply zA | apply zC | apply zE | apply zG); (· with_reducible assumption)) | ((first | apply zB | apply zD | apply zF | apply zH); (· with_reducible assumption)) | apply zM | apply zN | apply zO | apply zP | apply zQ | apply zR | apply zS | apply zT | apply zU | (apply zV; (· omega)) | (apply zW; (· omega)) | (apply zX; (· (first | omega | (dsimp only; omega)))) | (apply zY; (try (apply zY; apply zX; (· omega))); apply zX; (· omega); apply zX; (· (first | omega | (dsimp only; omega)))) | ((first | apply yJ | apply yK | apply yL | apply yM | apply yN | apply yO); (· exact hgA); (· exact hsA)) | (apply yNP; (· exact hgA); (· exact hsA)) | ((first | apply zA | apply zC | apply zE | apply zG); (· omega)) | ((first | apply zB | apply zD | apply zF | apply zH); (· omega)) | ((first | apply zI | apply zK); (· with_reducible assumption)) | ((first | apply zJ | apply zL); (· with_reducible assumption)) | fail)
              conv => whnf
              apply Exists.intro (⟨i + 1, _, p2, br2, pv2, _, S2, [] ++ [(0, e2)]⟩ : DSt)
              refine ⟨?inv, ?mu, ?wk⟩
              case wk =>
                conv => whnf
                refine weakH_of (HW.refl _) ?_
                repeat' (first | exact WT.nil | refine WT.same ?_ | refine WT.drop ?_ | refine WT.int (by omega) ?_ | refine WT.eq (by assumption) ?_ | refine WT.bl (by first | assumption | (symm; assumption)) ?_ | refine WT.vv (by assumption) ?_)
              case mu => first | omega | (dsimp only; omega)
              case inv => exact ⟨by dsimp only; omega, by dsimp only; exact leA, by dsimp only; exact hM2.keep hoA (fun j h1 h2 => hgA), by dsimp only; omega, by dsimp only; exact .inr ⟨_, rfl, by rw [List.nil_append, flatFE_one]; exact hgA, hoA, hoA⟩, hok2, by simp, he⟩
            · have hob := part_nf hM1 (by omega) go
              repeat' ((conv => whnf); first | refine take_v hst2 hM1 hok hcb2 (fun H2 p2 br2 pv2 hf2 hM2 => ?_); (have hz2 : HH.size ≤ H2.size := hf2.size); (have hle2 := le_mfr hle hf2 (Nat.le_refl _) hp); (have hp2 := hf2.po); (have gob2 : H2.get ob = some (.cells (flatFE out) true 6) := (hf2.get ob (by omega) (by omega) hob).trans go) | (refine own_fe (es := out) ?_ ?_ ?_; (· exact hgA); (· simp)) | (refine lds_fe (es := out) ?_ rfl rfl ?_; (· exact hgA)) | ((first | (apply vB; (case h => with_reducible assumption)) | (apply vA; (case h => with_reducible assumption)) | (apply vC; (case h => with_reducible assumption))); (case hk => exact kpA); (case he => omega)) | ((first | (apply vI; (case h => with_reducible assumption)) | (apply vG; (case h => with_reducible assumption)) | (apply vK; (case h => with_reducible assumption))); (case hk => exact kpA); (case he => omega); (case hp => omega); (case' g => intro hr_ hc_)) | ((first | (apply vJ; (case h => with_reducible assumption)) | (apply vH; (case h => with_reducible assumption)) | (apply vL; (case h => with_reducible assumption))); (case hk => exact kpA); (case he => omega); (case' g => intro hr_ hc_)) | (apply drawS_auto mixed tt_ok; (· kernel_rfl)) | apply zZ | apply yA | apply yB | ((first | apply zA | apply zC | apply zE | apply zG); (· with_reducible assumption)) | ((first | apply zB | apply zD | apply zF | apply zH); (· with_reducible assumption)) | apply zM | apply zN | apply zO | apply zP | apply zQ | apply zR | apply zS | apply zT | apply zU | (apply zV; (· omega)) | (apply zW; (· omega)) | (apply zX; (· (first | omega | (dsimp only; omega)))) | (apply zY; (try (apply zY; apply zX; (· omega))); apply zX; (· omega); apply zX; (· (first | omega | (dsimp only; omega)))) | ((first | apply yJ | apply yK | apply yL | apply yM | apply yN | apply yO); (· exact hgA); (· exact hsA)) | (apply yNP; (· exact hgA); (· exact hsA)) | ((first | apply zA | apply zC | apply zE | apply zG); (· omega)) | ((first | apply zB | apply zD | apply zF | apply zH); (· omega)) | ((first | apply zI | apply zK); (· with_reducible assumption)) | ((first | apply zJ | apply zL); (· with_reducible assumption)) | fail)
              conv => whnf
              apply Exists.intro (⟨i + 1, _, p2, br2, pv2, _, S2, out ++ [(0, e2)]⟩ : DSt)
              refine ⟨?inv, ?mu, ?wk⟩
              case wk =>
                conv => whnf
                refine weakH_of (HW.refl _) ?_
                repeat' (first | exact WT.nil | refine WT.same ?_ | refine WT.drop ?_ | refine WT.int (by omega) ?_ | refine WT.eq (by assumption) ?_ | refine WT.bl (by first | assumption | (symm; assumption)) ?_ | refine WT.vv (by assumption) ?_)
              case mu => first | omega | (dsimp only; omega)
              case inv => exact ⟨by dsimp only; omega, by dsimp only; exact leA, by dsimp only; exact hM2.keep hoA (fun j h1 h2 => hgA), by dsimp only; omega, by dsimp only; exact .inr ⟨_, by rw [List.length_append]; rfl, by rw [flatFE_app, flatFE_one]; exact hgA, hoA, hoA⟩, hok2, by dsimp only; rw [List.length_append]; simp; omega, he⟩
    · have hin2 : i = s.size := by omega
      subst hin2
      rw [Nat.sub_self] at he
      unfold decR at he
      have g := hM1.g
      by_cases hb : S.beg = 0
      · rw [if_pos hb] at he
        subst he
        have hms : mst S = 0 := by unfold mst; rw [if_pos hb]
        rw [hms] at g
        repeat' ((conv => whnf); first | ((first | (apply vB; (case h => with_reducible assumption)) | (apply vA; (case h => with_reducible assumption)) | (apply vC; (case h => with_reducible assumption))); (case hk => exact kpA); (case he => omega)) | ((first | (apply vI; (case h => with_reducible assumption)) | (apply vG; (case h => with_reducible assumption)) | (apply vK; (case h => with_reducible assumption))); (case hk => exact kpA); (case he => omega); (case hp => omega); (case' g => intro hr_ hc_)) | ((first | (apply vJ; (case h => with_reducible assumption)) | (apply vH; (case h => with_reducible assumption)) | (apply vL; (case h => with_reducible assumption))); (case hk => exact kpA); (case he => omega); (case' g => intro hr_ hc_)) | (apply drawS_auto mixed tt_ok; (· kernel_rfl)) | apply zZ | apply yA | apply yB | ((first | apply zA | apply zC | apply zE | apply zG); (· with_reducible assumption)) | ((first | apply zB | apply zD | apply zF | apply zH); (· with_reducible assumption)) | apply zM | apply zN | apply zO | apply zP | apply zQ | apply zR | apply zS | apply zT | apply zU | (apply zV; (· omega)) | (apply zW; (· omega)) | (apply zX; (· (first | omega | (dsimp only; omega)))) | (apply zY; (try (apply zY; apply zX; (· omega))); apply zX; (· omega); apply zX; (· (first | omega | (dsimp only; omega)))) | ((first | apply yJ | apply yK | apply yL | apply yM | apply yN | apply yO); (· exact hgA); (· exact hsA)) | (apply yNP; (· exact hgA); (· exact hsA)) | ((first | apply zA | apply zC | apply zE | apply zG); (· omega)) | ((first | apply zB | apply zD | apply zF | apply zH); (· omega)) | ((first | apply zI | apply zK); (· with_reducible assumption)) | ((first | apply zJ | apply zL); (· with_reducible assumption)) | fail)
        conv => whnf
        exact h _ _ hle (hov.imp id fun ⟨o, a, b, c, d⟩ => ⟨o, a, b, by omega, d⟩)
      · rw [if_neg hb] at he
        subst he
        have hms : mst S ≠ 0 := by unfold mst; rw [if_neg hb]; split <;> omega
        repeat' ((conv => whnf); first | ((first | (apply vB; (case h => with_reducible assumption)) | (apply vA; (case h => with_reducible assumption)) | (apply vC; (case h => with_reducible assumption))); (case hk => exact kpA); (case he => omega)) | ((first | (apply vI; (case h => with_reducible assumption)) | (apply vG; (case h => with_reducible assumption)) | (apply vK; (case h => with_reducible assumption))); (case hk => exact kpA); (case he => omega); (case hp => omega); (case' g => intro hr_ hc_)) | ((first | (apply vJ; (case h => with_reducible assumption)) | (apply vH; (case h => with_reducible assumption)) | (apply vL; (case h => with_reducible assumption))); (case hk => exact kpA); (case he => omega); (case' g => intro hr_ hc_)) | (apply drawS_auto mixed tt_ok; (· kernel_rfl)) | apply zZ | apply yA | apply yB | ((first | apply zA | apply zC | apply zE | apply zG); (· with_reducible assumption)) | ((first | apply zB | apply zD | apply zF | apply zH); (· with_reducible assumption)) | apply zM | apply zN | apply zO | apply zP | apply zQ | apply zR | apply zS | apply zT | apply zU | (apply zV; (· omega)) | (apply zW; (· omega)) | (apply zX; (· (first | omega | (dsimp only; omega)))) | (apply zY; (try (apply zY; apply zX; (· omega))); apply zX; (· omega); apply zX; (· (first | omega | (dsimp only; omega)))) | ((first | apply yJ | apply yK | apply yL | apply yM | apply yN | apply yO); (· exact hgA); (· exact hsA)) | (apply yNP; (· exact hgA); (· exact hsA)) | ((first | apply zA | apply zC | apply zE | apply zG); (· omega)) | ((first | apply zB | apply zD | apply zF | apply zH); (· omega)) | ((first | apply zI | apply zK); (· with_reducible assumption)) | ((first | apply zJ | apply zL); (· with_reducible assumption)) | fail)
        conv => whnf
        exact h _ _ hle (hov.imp id fun ⟨o, a, b, c, d⟩ => ⟨o, a, b, by omega, d⟩)
end
end Go.Abs
