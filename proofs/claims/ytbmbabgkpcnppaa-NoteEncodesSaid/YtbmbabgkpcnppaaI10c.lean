/- The reference's Decode. No conditions beyond those stated. -/
import Derived.Test.YtbmbabgkpcnppaaH10c
set_option linter.all false
set_option maxHeartbeats 2000000
set_option maxRecDepth 20000
namespace Go.Abs
open Go Go.Proofs

structure DRt where
  i : Nat
  H : AHeap
  v : Value
  S : MS
  out : List FE
structure DRInv (H : AHeap) (s : ByteArray) (R : DR) (r : DRt) : Prop where
  le : r.i ≤ s.size
  hle : H.le r.H
  m : r.H.get H.size = some (.cells (rvL r.S 0 0) true 0)
  z : H.size < r.H.size
  o : OFE r.H (H.size + 1) r.v r.out
  ok : OkS r.S
  n : r.out.length ≤ 2000
  e : decR s (s.size - r.i) r.i r.S r.out = R
section
variable {H : AHeap} {K : CK}
end
end Go.Abs
/- Numbers of variable length. No conditions beyond those stated. -/
set_option maxHeartbeats 2000000
set_option maxRecDepth 20000
namespace Go.Abs
open Go Go.Proofs

def numF (f : Nat → Int) : Nat → Nat → Int → Int × Int
  | 0, _, _ => (0, -1)
  | k + 1, i, n => if (i = 0 ∧ f i = 128) ∨ i = 5 then (0, 0) else if f i < 128 then (128 * n + f i % 128, (i : Int) + 1) else numF f k (i + 1) (128 * n + f i % 128)
theorem and127_fin : ∀ n : Fin 256, bitsOf .and .u8 (n.val : Int) 127 = ((n.val : Int) % 128) := by unfold bitsOf; decide +kernel
theorem and127 {st : Int} (h : 0 ≤ st ∧ st < 256) : bitsOf .and .u8 st 127 = st % 128 := by
  have := and127_fin ⟨st.toNat, by omega⟩
  dsimp only at this
  rwa [Int.toNat_of_nonneg (by omega)] at this
theorem or7 {n x : Int} (hn : 0 ≤ n ∧ n < 1000000000000) (hx : 0 ≤ x ∧ x < 128) : bitsOf .or .i64 (128 * n) x = 128 * n + x := by
  obtain ⟨m, rfl⟩ := Int.eq_ofNat_of_zero_le hn.1
  obtain ⟨y, rfl⟩ := Int.eq_ofNat_of_zero_le hx.1
  have hy : y < 2 ^ 7 := by omega
  have hor : (128 * m) ||| y = 128 * m + y := by
    have := Nat.two_pow_add_eq_or_of_lt hy m
    rw [show (2 : Nat) ^ 7 = 128 from rfl] at this
    omega
  unfold bitsOf
  have h1 : (BitVec.ofInt IntKind.i64.bits (128 * (m : Int)) ||| BitVec.ofInt IntKind.i64.bits (y : Int)).toNat = 128 * m + y := by
    show (BitVec.ofInt 64 (128 * (m : Int)) ||| BitVec.ofInt 64 (y : Int)).toNat = 128 * m + y
    rw [BitVec.toNat_or, BitVec.toNat_ofInt, BitVec.toNat_ofInt]
    have c1 : ((128 * (m : Int)) % ((2 ^ 64 : Nat) : Int)).toNat = 128 * m := by omega
    have c2 : ((y : Int) % ((2 ^ 64 : Nat) : Int)).toNat = y := by omega
    rw [c1, c2, hor]
  simp only [h1]
  have e1 : IntKind.i64.bits = 64 := rfl
  have e2 : (2 : Int) ^ 64 = 18446744073709551616 := by decide
  have e3 : (2 : Int) ^ (64 - 1) = 9223372036854775808 := by decide
  have e4 : IntKind.i64.signed = true := rfl
  unfold IntKind.wrap
  rw [e1, e4, e2, e3]
  have e6 : ((128 * m + y : Nat) : Int) % 18446744073709551616 = 128 * (m : Int) + (y : Int) := by omega
  simp only [e6]
  rw [if_neg (by simp; omega)]
theorem numF_bd (f : Nat → Int) : ∀ (k i : Nat) (n : Int), (0 ≤ n ∧ n < 128 ^ i ∧ i ≤ 5) → 0 ≤ (numF f k i n).1 ∧ (numF f k i n).1 < 34359738368 ∧ -1 ≤ (numF f k i n).2 ∧ (numF f k i n).2 ≤ (i + k : Nat)
  | 0, i, n, h => by unfold numF; simp
  | k + 1, i, n, h => by
    unfold numF
    split
    · simp; omega
    · rename_i h1
      have hi : i < 5 := by omega
      have hp : (128 : Int) ^ i ≤ 268435456 := by
        rcases (by omega : i = 0 ∨ i = 1 ∨ i = 2 ∨ i = 3 ∨ i = 4) with rfl | rfl | rfl | rfl | rfl <;> decide
      split
      · dsimp only; omega
      · have := numF_bd f k (i + 1) (128 * n + f i % 128) ⟨by omega, by rw [Int.pow_succ]; omega, by omega⟩
        omega
section
variable {H : AHeap} {K : CK}
theorem shl7 {n : Int} : n * 2 ^ (min (7 : Int).toNat 64) = 128 * n := by
  have : (2 : Int) ^ (min (7 : Int).toNat 64) = 128 := rfl
  rw [this]; omega
theorem readLong_c {t : ByteArray} (ht : t.size ≤ 65536) (h : K (.returned (.tuple #[iv (numF (sAt t) t.size 0 0).1, iv (numF (sAt t) t.size 0 0).2])) H) : callS P (fnV 53) [.string t] H K := by
  generalize hR : numF (sAt t) t.size 0 0 = R at h
  refine callS_walk tt_ok Try.func53 rfl (by kernel_rfl) ?_
  conv => whnf
  repeat' ((conv => whnf); first | (apply drawS_auto mixed tt_ok; (· kernel_rfl)) | apply zZ | apply yA | apply yB | ((first | apply zA | apply zC | apply zE | apply zG); (· with_reducible assumption)) | ((first | apply zB | apply zD | apply zF | apply zH); (· with_reducible assumption)) | apply zM | apply zN | apply zO | apply zP | apply zQ | apply zR | apply zS | apply zT | apply zU | (apply zV; (· omega)) | (apply zW; (· omega)) | (apply zX; (· (first | omega | (dsimp only; omega)))) | (apply zY; (try (apply zY; apply zX; (· omega))); apply zX; (· omega); apply zX; (· (first | omega | (dsimp only; omega)))) | ((first | apply yJ | apply yK | apply yL | apply yM | apply yN | apply yO); (· exact hgA); (· exact hsA)) | (apply yNP; (· exact hgA); (· exact hsA)) | ((first | apply zA | apply zC | apply zE | apply zG); (· omega)) | ((first | apply zB | apply zD | apply zF | apply zH); (· omega)) | ((first | apply zI | apply zK); (· with_reducible assumption)) | ((first | apply zJ | apply zL); (· with_reducible assumption)) | fail)
  conv => whnf
  refine loopS_mask tt_ok (fun (r : Nat × Int) => [.k, .w, .p (iv r.2), .w, .w, .w, .k, .p (iv r.1), .w, .w, .w, .w, .w, .w, .w, .w, .w, .w, .w, .w, .w, .w, .w, .w, .w, .w, .w, .w, .w, .w, .w, .w, .w, .w, .w, .w, .w]) (fun (r : Nat × Int) => H) (fun (r : Nat × Int) => r.1 ≤ t.size ∧ r.1 ≤ 5 ∧ 0 ≤ r.2 ∧ r.2 < 128 ^ r.1 ∧ numF (sAt t) (t.size - r.1) r.1 r.2 = R) (fun (r : Nat × Int) => t.size - r.1) (⟨0, 0⟩) (⟨by omega, by omega, by omega, by decide, hR⟩) ?_ (fun r hr => ?_)
  · conv => whnf
    refine weakH_of (HW.refl _) ?_
    repeat' (first | exact WT.nil | refine WT.same ?_ | refine WT.drop ?_ | refine WT.int (by omega) ?_ | refine WT.eq (by assumption) ?_ | refine WT.bl (by first | assumption | (symm; assumption)) ?_ | refine WT.vv (by assumption) ?_)
  obtain ⟨i, n⟩ := r
  obtain ⟨hi, h5, hn0, hn1, he⟩ := hr
  dsimp only at hi h5 hn0 hn1 he ⊢
  by_cases hin : i < t.size
  · have hcb := sAt_bd t i
    have hec : sAt t ((i : Int).toNat) = sAt t i := by rw [Int.toNat_natCast]
    have hp : (128 : Int) ^ i ≤ 34359738368 := by
      rcases (by omega : i = 0 ∨ i = 1 ∨ i = 2 ∨ i = 3 ∨ i = 4 ∨ i = 5) with rfl | rfl | rfl | rfl | rfl | rfl <;> decide
    rw [show t.size - i = (t.size - (i + 1)) + 1 by omega] at he
    unfold numF at he
    by_cases h1 : (i = 0 ∧ sAt t i = 128) ∨ i = 5
    · rw [if_pos h1] at he
      subst he
      by_cases h0 : i = 0
      · subst h0
        have h2 : sAt t (0 : Int).toNat = 128 := by rcases h1 with h1 | h1; (· exact h1.2); (· omega)
        repeat' ((conv => whnf); first | (apply drawS_auto mixed tt_ok; (· kernel_rfl)) | apply zZ | apply yA | apply yB | ((first | apply zA | apply zC | apply zE | apply zG); (· with_reducible assumption)) | ((first | apply zB | apply zD | apply zF | apply zH); (· with_reducible assumption)) | apply zM | apply zN | apply zO | apply zP | apply zQ | apply zR | apply zS | apply zT | apply zU | (apply zV; (· omega)) | (apply zW; (· omega)) | (apply zX; (· (first | omega | (dsimp only; omega)))) | (apply zY; (try (apply zY; apply zX; (· omega))); apply zX; (· omega); apply zX; (· (first | omega | (dsimp only; omega)))) | ((first | apply yJ | apply yK | apply yL | apply yM | apply yN | apply yO); (· exact hgA); (· exact hsA)) | (apply yNP; (· exact hgA); (· exact hsA)) | ((first | apply zA | apply zC | apply zE | apply zG); (· omega)) | ((first | apply zB | apply zD | apply zF | apply zH); (· omega)) | ((first | apply zI | apply zK); (· with_reducible assumption)) | ((first | apply zJ | apply zL); (· with_reducible assumption)) | fail)
        conv => whnf
        exact h
      · have h6 : i = 5 := by omega
        subst h6
        repeat' ((conv => whnf); first | (apply drawS_auto mixed tt_ok; (· kernel_rfl)) | apply zZ | apply yA | apply yB | ((first | apply zA | apply zC | apply zE | apply zG); (· with_reducible assumption)) | ((first | apply zB | apply zD | apply zF | apply zH); (· with_reducible assumption)) | apply zM | apply zN | apply zO | apply zP | apply zQ | apply zR | apply zS | apply zT | apply zU | (apply zV; (· omega)) | (apply zW; (· omega)) | (apply zX; (· (first | omega | (dsimp only; omega)))) | (apply zY; (try (apply zY; apply zX; (· omega))); apply zX; (· omega); apply zX; (· (first | omega | (dsimp only; omega)))) | ((first | apply yJ | apply yK | apply yL | apply yM | apply yN | apply yO); (· exact hgA); (· exact hsA)) | (apply yNP; (· exact hgA); (· exact hsA)) | ((first | apply zA | apply zC | apply zE | apply zG); (· omega)) | ((first | apply zB | apply zD | apply zF | apply zH); (· omega)) | ((first | apply zI | apply zK); (· with_reducible assumption)) | ((first | apply zJ | apply zL); (· with_reducible assumption)) | fail)
        conv => whnf
        exact h
    · rw [if_neg h1] at he
      have e1 : bitsOf .and .u8 (sAt t ((i : Int).toNat)) 127 = sAt t i % 128 := by rw [hec]; exact and127 hcb
      have e2 : bitsOf .or .i64 (128 * n) (sAt t i % 128) = 128 * n + sAt t i % 128 := or7 (by omega) (by omega)
      have h5n : i ≠ 5 := by omega
      by_cases hlo : sAt t i < 128
      · rw [if_pos hlo] at he
        subst he
        have hlo2 : sAt t ((i : Int).toNat) < 128 := by rw [hec]; exact hlo
        by_cases h0 : i = 0
        · subst h0
          have h2 : sAt t (0 : Int).toNat ≠ 128 := fun e => h1 (.inl ⟨rfl, e⟩)
          repeat' ((conv => whnf); first | (refine intK_shl shl7 ?_ ?_; (· omega)) | rw [e1] | rw [e2] | (apply drawS_auto mixed tt_ok; (· kernel_rfl)) | apply zZ | apply yA | apply yB | ((first | apply zA | apply zC | apply zE | apply zG); (· with_reducible assumption)) | ((first | apply zB | apply zD | apply zF | apply zH); (· with_reducible assumption)) | apply zM | apply zN | apply zO | apply zP | apply zQ | apply zR | apply zS | apply zT | apply zU | (apply zV; (· omega)) | (apply zW; (· omega)) | (apply zX; (· (first | omega | (dsimp only; omega)))) | (apply zY; (try (apply zY; apply zX; (· omega))); apply zX; (· omega); apply zX; (· (first | omega | (dsimp only; omega)))) | ((first | apply yJ | apply yK | apply yL | apply yM | apply yN | apply yO); (· exact hgA); (· exact hsA)) | (apply yNP; (· exact hgA); (· exact hsA)) | ((first | apply zA | apply zC | apply zE | apply zG); (· omega)) | ((first | apply zB | apply zD | apply zF | apply zH); (· omega)) | ((first | apply zI | apply zK); (· with_reducible assumption)) | ((first | apply zJ | apply zL); (· with_reducible assumption)) | fail)
          conv => whnf
          exact h
        · skip
          repeat' ((conv => whnf); first | (refine intK_shl shl7 ?_ ?_; (· omega)) | rw [e1] | rw [e2] | (apply drawS_auto mixed tt_ok; (· kernel_rfl)) | apply zZ | apply yA | apply yB | ((first | apply zA | apply zC | apply zE | apply zG); (· with_reducible assumption)) | ((first | apply zB | apply zD | apply zF | apply zH); (· with_reducible assumption)) | apply zM | apply zN | apply zO | apply zP | apply zQ | apply zR | apply zS | apply zT | apply zU | (apply zV; (· omega)) | (apply zW; (· omega)) | (apply zX; (· (first | omega | (dsimp only; omega)))) | (apply zY; (try (apply zY; apply zX; (· omega))); apply zX; (· omega); apply zX; (· (first | omega | (dsimp only; omega)))) | ((first | apply yJ | apply yK | apply yL | apply yM | apply yN | apply yO); (· exact hgA); (· exact hsA)) | (apply yNP; (· exact hgA); (· exact hsA)) | ((first | apply zA | apply zC | apply zE | apply zG); (· omega)) | ((first | apply zB | apply zD | apply zF | apply zH); (· omega)) | ((first | apply zI | apply zK); (· with_reducible assumption)) | ((first | apply zJ | apply zL); (· with_reducible assumption)) | fail)
          conv => whnf
          exact h
      · rw [if_neg hlo] at he
        have hlo2 : ¬ sAt t ((i : Int).toNat) < 128 := by rw [hec]; exact hlo
        by_cases h0 : i = 0
        · subst h0
          have h2 : sAt t (0 : Int).toNat ≠ 128 := fun e => h1 (.inl ⟨rfl, e⟩)
          repeat' ((conv => whnf); first | (refine intK_shl shl7 ?_ ?_; (· omega)) | rw [e1] | rw [e2] | (apply drawS_auto mixed tt_ok; (· kernel_rfl)) | apply zZ | apply yA | apply yB | ((first | apply zA | apply zC | apply zE | apply zG); (· with_reducible assumption)) | ((first | apply zB | apply zD | apply zF | apply zH); (· with_reducible assumption)) | apply zM | apply zN | apply zO | apply zP | apply zQ | apply zR | apply zS | apply zT | apply zU | (apply zV; (· omega)) | (apply zW; (· omega)) | (apply zX; (· (first | omega | (dsimp only; omega)))) | (apply zY; (try (apply zY; apply zX; (· omega))); apply zX; (· omega); apply zX; (· (first | omega | (dsimp only; omega)))) | ((first | apply yJ | apply yK | apply yL | apply yM | apply yN | apply yO); (· exact hgA); (· exact hsA)) | (apply yNP; (· exact hgA); (· exact hsA)) | ((first | apply zA | apply zC | apply zE | apply zG); (· omega)) | ((first | apply zB | apply zD | apply zF | apply zH); (· omega)) | ((first | apply zI | apply zK); (· with_reducible assumption)) | ((first | apply zJ | apply zL); (· with_reducible assumption)) | fail)
          conv => whnf
          apply Exists.intro (0 + 1, _)
          refine ⟨?inv, ?mu, ?wk⟩
          case wk =>
            conv => whnf
            refine weakH_of (HW.refl _) ?_
            repeat' (first | exact WT.nil | refine WT.same ?_ | refine WT.drop ?_ | refine WT.int (by omega) ?_ | refine WT.eq (by assumption) ?_ | refine WT.bl (by first | assumption | (symm; assumption)) ?_ | refine WT.vv (by assumption) ?_)
          case mu => first | omega | (dsimp only; omega)
          case inv => exact ⟨by dsimp only; omega, by dsimp only; omega, by dsimp only; omega, by dsimp only; rw [Int.pow_succ]; omega, he⟩
        · skip
          repeat' ((conv => whnf); first | (refine intK_shl shl7 ?_ ?_; (· omega)) | rw [e1] | rw [e2] | (apply drawS_auto mixed tt_ok; (· kernel_rfl)) | apply zZ | apply yA | apply yB | ((first | apply zA | apply zC | apply zE | apply zG); (· with_reducible assumption)) | ((first | apply zB | apply zD | apply zF | apply zH); (· with_reducible assumption)) | apply zM | apply zN | apply zO | apply zP | apply zQ | apply zR | apply zS | apply zT | apply zU | (apply zV; (· omega)) | (apply zW; (· omega)) | (apply zX; (· (first | omega | (dsimp only; omega)))) | (apply zY; (try (apply zY; apply zX; (· omega))); apply zX; (· omega); apply zX; (· (first | omega | (dsimp only; omega)))) | ((first | apply yJ | apply yK | apply yL | apply yM | apply yN | apply yO); (· exact hgA); (· exact hsA)) | (apply yNP; (· exact hgA); (· exact hsA)) | ((first | apply zA | apply zC | apply zE | apply zG); (· omega)) | ((first | apply zB | apply zD | apply zF | apply zH); (· omega)) | ((first | apply zI | apply zK); (· with_reducible assumption)) | ((first | apply zJ | apply zL); (· with_reducible assumption)) | fail)
          conv => whnf
          apply Exists.intro (i + 1, _)
          refine ⟨?inv, ?mu, ?wk⟩
          case wk =>
            conv => whnf
            refine weakH_of (HW.refl _) ?_
            repeat' (first | exact WT.nil | refine WT.same ?_ | refine WT.drop ?_ | refine WT.int (by omega) ?_ | refine WT.eq (by assumption) ?_ | refine WT.bl (by first | assumption | (symm; assumption)) ?_ | refine WT.vv (by assumption) ?_)
          case mu => first | omega | (dsimp only; omega)
          case inv => exact ⟨by dsimp only; omega, by dsimp only; omega, by dsimp only; omega, by dsimp only; rw [Int.pow_succ]; omega, he⟩
  · have hin2 : i = t.size := by omega
    subst hin2
    rw [Nat.sub_self] at he
    unfold numF at he
    subst he
    repeat' ((conv => whnf); first | (apply drawS_auto mixed tt_ok; (· kernel_rfl)) | apply zZ | apply yA | apply yB | ((first | apply zA | apply zC | apply zE | apply zG); (· with_reducible assumption)) | ((first | apply zB | apply zD | apply zF | apply zH); (· with_reducible assumption)) | apply zM | apply zN | apply zO | apply zP | apply zQ | apply zR | apply zS | apply zT | apply zU | (apply zV; (· omega)) | (apply zW; (· omega)) | (apply zX; (· (first | omega | (dsimp only; omega)))) | (apply zY; (try (apply zY; apply zX; (· omega))); apply zX; (· omega); apply zX; (· (first | omega | (dsimp only; omega)))) | ((first | apply yJ | apply yK | apply yL | apply yM | apply yN | apply yO); (· exact hgA); (· exact hsA)) | (apply yNP; (· exact hgA); (· exact hsA)) | ((first | apply zA | apply zC | apply zE | apply zG); (· omega)) | ((first | apply zB | apply zD | apply zF | apply zH); (· omega)) | ((first | apply zI | apply zK); (· with_reducible assumption)) | ((first | apply zJ | apply zL); (· with_reducible assumption)) | fail)
    conv => whnf
    exact h
end
end Go.Abs
