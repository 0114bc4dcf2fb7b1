/- Numbers of variable length, written: both. No conditions beyond those stated. -/
import Derived.Test.YtbmbabgkpcnppaaS10c
set_option linter.all false
set_option maxHeartbeats 4000000
set_option maxRecDepth 20000
namespace Go.Abs
open Go Go.Proofs

def varA (n : Nat) (acc : List Int) : List Int := if h : n = 0 then acc else varA (n / 128) ((128 + ((n % 128 : Nat) : Int)) :: acc)
decreasing_by omega
theorem varA_0 (acc : List Int) : varA 0 acc = acc := by rw [varA, dif_pos rfl]
theorem varA_p {n : Nat} (h : n ≠ 0) (acc : List Int) : varA n acc = varA (n / 128) ((128 + ((n % 128 : Nat) : Int)) :: acc) := by rw [varA, dif_neg h]
def varL (n : Nat) : List Int := varA (n / 128) [((n % 128 : Nat) : Int)]
def dg (n : Nat) : Nat := if h : n = 0 then 0 else dg (n / 128) + 1
decreasing_by omega
theorem dg_0 : dg 0 = 0 := by rw [dg, dif_pos rfl]
theorem dg_p {n : Nat} (h : n ≠ 0) : dg n = dg (n / 128) + 1 := by rw [dg, dif_neg h]
theorem dg_le : ∀ (k n : Nat), n < 128 ^ k → dg n ≤ k
  | 0, n, h => by
    have : n = 0 := by simpa using h
    subst this
    rw [dg_0]; omega
  | k + 1, n, h => by
    by_cases hn : n = 0
    · subst hn; rw [dg_0]; omega
    · rw [dg_p hn]
      have := dg_le k (n / 128) (by rw [Nat.pow_succ] at h; omega)
      omega
theorem varA_len : ∀ (n : Nat) (acc : List Int), (varA n acc).length = dg n + acc.length := by
  intro n
  induction n using Nat.strongRecOn with
  | _ n ih =>
    intro acc
    by_cases hn : n = 0
    · subst hn; rw [varA_0, dg_0]; omega
    · rw [varA_p hn, ih (n / 128) (by omega), dg_p hn]; simp; omega
theorem varL_len (n : Nat) : (varL n).length = dg (n / 128) + 1 := by unfold varL; rw [varA_len]; rfl
theorem varL_bd {n : Nat} (h : n ≤ 1000000000) : 1 ≤ (varL n).length ∧ (varL n).length ≤ 6 := by
  rw [varL_len]
  have := dg_le 5 (n / 128) (by omega)
  omega
theorem and_127 {n : Int} : bitsOf .and .i64 n 127 = n % 128 := by
  unfold bitsOf
  have h1 : (BitVec.ofInt IntKind.i64.bits n &&& BitVec.ofInt IntKind.i64.bits 127).toNat = (n % 128).toNat := by
    show (BitVec.ofInt 64 n &&& BitVec.ofInt 64 127).toNat = (n % 128).toNat
    rw [BitVec.toNat_and, BitVec.toNat_ofInt, BitVec.toNat_ofInt]
    have e : ((127 : Int) % ((2 ^ 64 : Nat) : Int)).toNat = 2 ^ 7 - 1 := by decide
    rw [e, Nat.and_two_pow_sub_one_eq_mod]
    omega
  simp only [h1]
  have h2 : IntKind.i64.wrap (((n % 128).toNat : Nat) : Int) = ((n % 128).toNat : Nat) := by
    have hb : 0 ≤ n % 128 ∧ n % 128 < 128 := ⟨Int.emod_nonneg _ (by omega), Int.emod_lt_of_pos _ (by omega)⟩
    generalize n % 128 = m at hb
    have e1 : IntKind.i64.bits = 64 := rfl
    have e2 : IntKind.i64.signed = true := rfl
    have e3 : ((m.toNat : Nat) : Int) = m := by omega
    have e4 : (2 : Int) ^ 64 = 18446744073709551616 := by decide
    have e5 : (2 : Int) ^ (64 - 1) = 9223372036854775808 := by decide
    rw [e3]
    unfold IntKind.wrap
    rw [e1, e2, e4, e5]
    have e6 : m % 18446744073709551616 = m := by omega
    simp only [e6]
    rw [if_neg (by simp; omega)]
  rw [h2]
  omega
theorem or128_fin : ∀ n : Fin 128, bitsOf .or .u8 (n.val : Int) 128 = 128 + (n.val : Int) := by unfold bitsOf; decide +kernel
theorem or128 {n : Int} (h : 0 ≤ n ∧ n < 128) : bitsOf .or .u8 n 128 = 128 + n := by
  have := or128_fin ⟨n.toNat, by omega⟩
  dsimp only at this
  rwa [Int.toNat_of_nonneg (by omega)] at this
theorem shr7 {n : Nat} : shrOf .i64 (n : Int) 7 = ((n / 128 : Nat) : Int) := by
  rw [shr_eq, show (2 : Int) ^ (min (7 : Int).toNat 64) = 128 from rfl]
  omega
structure VSt where
  n : Nat
  H : AHeap
  o : Nat
  acc : List Int
structure VInv (H : AHeap) (R : List Int) (r : VSt) : Prop where
  hle : H.le r.H
  o : H.size ≤ r.o
  lt : r.o < r.H.size
  g : r.H.get r.o = some (.cells (r.acc.map (Value.int .u8)) true 1)
  l : r.acc.length ≤ 20 - dg r.n ∧ dg r.n ≤ 10 ∧ r.n ≤ 1000000000
  e : varA r.n r.acc = R
section
variable {H : AHeap} {K : CK}
theorem long_c {n : Nat} (hn : n ≤ 1000000000) (h : BK H K (varL n)) : callS P (fnV 50) [iv n] H K := by
  have hd := dg_le 5 (n / 128) (by omega)
  generalize hR : varL n = R at h
  have ea : bitsOf .and .i64 (n : Int) 127 = ((n % 128 : Nat) : Int) := by rw [and_127]; omega
  have es : shrOf .i64 (n : Int) 7 = ((n / 128 : Nat) : Int) := shr7
  refine callS_walk tt_ok Try.func50 rfl (by kernel_rfl) ?_
  conv => whnf
  repeat' ((conv => whnf); first | rw [ea] | (refine intK_u8 ?_ ?_; (· omega)) | rw [es] | apply yA | apply yB | ((first | apply zA | apply zC | apply zE | apply zG); (· with_reducible assumption)) | ((first | apply zB | apply zD | apply zF | apply zH); (· with_reducible assumption)) | apply zM | apply zN | apply zO | apply zP | apply zQ | apply zR | apply zS | apply zT | apply zU | (apply zV; (· omega)) | (apply zW; (· omega)) | (apply zX; (· (first | omega | (dsimp only; omega)))) | (apply zY; (try (apply zY; apply zX; (· omega))); apply zX; (· omega); apply zX; (· (first | omega | (dsimp only; omega)))) | ((first | apply yJ | apply yK | apply yL | apply yM | apply yN | apply yO); (· exact hgA); (· exact hsA)) | (apply yNP; (· exact hgA); (· exact hsA)) | ((first | apply zA | apply zC | apply zE | apply zG); (· omega)) | ((first | apply zB | apply zD | apply zF | apply zH); (· omega)) | ((first | apply zI | apply zK); (· with_reducible assumption)) | ((first | apply zJ | apply zL); (· with_reducible assumption)) | fail)
  conv => whnf
  apply loopS_mask tt_ok (fun (r : VSt) => [.p (iv r.n), .w, .w, .p (.slice (some ⟨r.o, 0, none⟩) r.acc.length r.acc.length), .w, .w, .w, .w, .w, .w, .w, .w, .w, .w, .w, .w, .w, .w, .w, .w, .w, .w]) (fun (r : VSt) => r.H) (fun (r : VSt) => VInv H R r) (fun (r : VSt) => r.n) (⟨n / 128, _, H.size, [((n % 128 : Nat) : Int)]⟩)
  case hst =>
    conv => whnf
    refine weakH_of (HW.refl _) ?_
    repeat' (first | exact WT.nil | refine WT.same ?_ | refine WT.drop ?_ | refine WT.int (by omega) ?_ | refine WT.eq (by assumption) ?_ | refine WT.bl (by first | assumption | (symm; assumption)) ?_ | refine WT.vv (by assumption) ?_)
  case h0 => exact ⟨by dsimp only; exact leA, Nat.le_refl _, by dsimp only; exact hoA, by dsimp only; exact hgA, by dsimp only; simp; omega, hR⟩
  intro r hr
  obtain ⟨m, HH, o, acc⟩ := r
  obtain ⟨hle, ho, holt, hg, hl, he⟩ := hr
  dsimp only at hle ho holt hg hl he ⊢
  have hz := hle.size
  by_cases hm : m = 0
  · subst hm
    rw [varA_0] at he
    subst he
    repeat' ((conv => whnf); first | apply yA | apply yB | ((first | apply zA | apply zC | apply zE | apply zG); (· with_reducible assumption)) | ((first | apply zB | apply zD | apply zF | apply zH); (· with_reducible assumption)) | apply zM | apply zN | apply zO | apply zP | apply zQ | apply zR | apply zS | apply zT | apply zU | (apply zV; (· omega)) | (apply zW; (· omega)) | (apply zX; (· (first | omega | (dsimp only; omega)))) | (apply zY; (try (apply zY; apply zX; (· omega))); apply zX; (· omega); apply zX; (· (first | omega | (dsimp only; omega)))) | ((first | apply yJ | apply yK | apply yL | apply yM | apply yN | apply yO); (· exact hgA); (· exact hsA)) | (apply yNP; (· exact hgA); (· exact hsA)) | ((first | apply zA | apply zC | apply zE | apply zG); (· omega)) | ((first | apply zB | apply zD | apply zF | apply zH); (· omega)) | ((first | apply zI | apply zK); (· with_reducible assumption)) | ((first | apply zJ | apply zL); (· with_reducible assumption)) | fail)
    conv => whnf
    exact h HH o 0 _ hle ho holt (BVb.all hg)
  · have ea2 : bitsOf .and .i64 (m : Int) 127 = ((m % 128 : Nat) : Int) := by rw [and_127]; omega
    have es2 : shrOf .i64 (m : Int) 7 = ((m / 128 : Nat) : Int) := shr7
    have eo : bitsOf .or .u8 ((m % 128 : Nat) : Int) 128 = 128 + ((m % 128 : Nat) : Int) := or128 (by omega)
    have hd2 := dg_p hm
    rw [varA_p hm] at he
    repeat' ((conv => whnf); first | rw [ea2] | (refine intK_u8 ?_ ?_; (· omega)) | rw [es2] | rw [eo] | (refine lds_by (bs := acc) ?_ ?_ ?_ ?_; (· (repeat (first | with_reducible assumption | ((first | apply yP | apply yQ); (first | omega | (simp; done) | (simp; omega))) | ((first | refine (yR _ _ ?_).trans ?_ | refine (yS _ _ ?_).trans ?_ | refine (yT _ ?_).trans ?_ | refine (yU (by with_reducible assumption) _ ?_).trans ?_); (· (first | omega | (simp; done) | (simp; omega)))) | exact rfl | assumption))); (· rfl); (· simp)) | rw [Nat.add_comm 1 acc.length] | apply yA | apply yB | ((first | apply zA | apply zC | apply zE | apply zG); (· with_reducible assumption)) | ((first | apply zB | apply zD | apply zF | apply zH); (· with_reducible assumption)) | apply zM | apply zN | apply zO | apply zP | apply zQ | apply zR | apply zS | apply zT | apply zU | (apply zV; (· omega)) | (apply zW; (· omega)) | (apply zX; (· (first | omega | (dsimp only; omega)))) | (apply zY; (try (apply zY; apply zX; (· omega))); apply zX; (· omega); apply zX; (· (first | omega | (dsimp only; omega)))) | ((first | apply yJ | apply yK | apply yL | apply yM | apply yN | apply yO); (· exact hgA); (· exact hsA)) | (apply yNP; (· exact hgA); (· exact hsA)) | ((first | apply zA | apply zC | apply zE | apply zG); (· omega)) | ((first | apply zB | apply zD | apply zF | apply zH); (· omega)) | ((first | apply zI | apply zK); (· with_reducible assumption)) | ((first | apply zJ | apply zL); (· with_reducible assumption)) | fail)
    conv => whnf
    apply Exists.intro (⟨m / 128, _, _, (128 + ((m % 128 : Nat) : Int)) :: acc⟩ : VSt)
    refine ⟨?inv, ?mu, ?wk⟩
    case wk =>
      conv => whnf
      refine weakH_of (HW.refl _) ?_
      repeat' (first | exact WT.nil | refine WT.same ?_ | refine WT.drop ?_ | refine WT.int (by omega) ?_ | refine WT.eq (by assumption) ?_ | refine WT.bl (by first | assumption | (symm; assumption)) ?_ | refine WT.vv (by assumption) ?_)
    case mu => first | omega | (dsimp only; omega)
    case inv => exact ⟨by dsimp only; exact leA, hoA, by dsimp only; exact hoA, by dsimp only; exact hgA, by dsimp only; simp; omega, he⟩
end
end Go.Abs
