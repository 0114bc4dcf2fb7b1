/- Contracts of the volume functions on numbers. -/
import Derived.Test.YtoakdiccepcelaaC06
set_option linter.all false
set_option maxHeartbeats 400000
set_option maxRecDepth 20000
namespace Go.Abs
open Go Go.Proofs
theorem within_c {n lo hi : Int} {H : AHeap} {K : CK} (h : K (.returned (.bool (decide (lo ≤ n) && decide (n ≤ hi)))) H) : callS P (fnV 48) [iv n, iv lo, iv hi] H K := by
  refine callS_walk tt_ok Try.func48 rfl (by kernel_rfl) ?_
  conv => whnf
  by_cases h1 : lo ≤ n
  · skip
    repeat' ((conv => whnf); first | (apply drawS_auto mixed tt_ok; (· kernel_rfl)) | apply zZ | apply yA | apply yB | ((first | apply zA | apply zC | apply zE | apply zG); (· assumption)) | ((first | apply zB | apply zD | apply zF | apply zH); (· assumption)) | apply zM | apply zN | apply zO | apply zP | apply zQ | apply zR | apply zS | apply zT | apply zU | (apply zV; (· omega)) | (apply zW; (· omega)) | (apply zX; (· (first | omega | (dsimp only; omega)))) | (apply zY; (try (apply zY; apply zX; (· omega))); apply zX; (· omega); apply zX; (· (first | omega | (dsimp only; omega)))) | ((first | apply zA | apply zC | apply zE | apply zG); (· omega)) | ((first | apply zB | apply zD | apply zF | apply zH); (· omega)) | ((first | apply zI | apply zK); (· assumption)) | ((first | apply zJ | apply zL); (· assumption)) | fail)
    conv => whnf
    simpa [h1] using h
  · skip
    repeat' ((conv => whnf); first | (apply drawS_auto mixed tt_ok; (· kernel_rfl)) | apply zZ | apply yA | apply yB | ((first | apply zA | apply zC | apply zE | apply zG); (· assumption)) | ((first | apply zB | apply zD | apply zF | apply zH); (· assumption)) | apply zM | apply zN | apply zO | apply zP | apply zQ | apply zR | apply zS | apply zT | apply zU | (apply zV; (· omega)) | (apply zW; (· omega)) | (apply zX; (· (first | omega | (dsimp only; omega)))) | (apply zY; (try (apply zY; apply zX; (· omega))); apply zX; (· omega); apply zX; (· (first | omega | (dsimp only; omega)))) | ((first | apply zA | apply zC | apply zE | apply zG); (· omega)) | ((first | apply zB | apply zD | apply zF | apply zH); (· omega)) | ((first | apply zI | apply zK); (· assumption)) | ((first | apply zJ | apply zL); (· assumption)) | fail)
    conv => whnf
    simpa [h1] using h
theorem odd_c {n : Int} {H : AHeap} {K : CK} (h : K (.returned (.bool (!(decide (0 ≤ n) && decide (n ≤ 655360))))) H) : callS P (fnV 47) [iv n] H K := by
  refine callS_walk tt_ok Try.func47 rfl (by kernel_rfl) ?_
  conv => whnf
  refine within_c ?_
  repeat' ((conv => whnf); first | apply yA | apply yB | ((first | apply zA | apply zC | apply zE | apply zG); (· assumption)) | ((first | apply zB | apply zD | apply zF | apply zH); (· assumption)) | apply zM | apply zN | apply zO | apply zP | apply zQ | apply zR | apply zS | apply zT | apply zU | (apply zV; (· omega)) | (apply zW; (· omega)) | (apply zX; (· (first | omega | (dsimp only; omega)))) | (apply zY; (try (apply zY; apply zX; (· omega))); apply zX; (· omega); apply zX; (· (first | omega | (dsimp only; omega)))) | ((first | apply zA | apply zC | apply zE | apply zG); (· omega)) | ((first | apply zB | apply zD | apply zF | apply zH); (· omega)) | ((first | apply zI | apply zK); (· assumption)) | ((first | apply zJ | apply zL); (· assumption)) | fail)
  conv => whnf
  exact h
def rnd (a n : Int) : Int := if a < 0 then 0 - ((0 - a + n.tdiv 2).tdiv n) else (a + n.tdiv 2).tdiv n
theorem rounded_c {a n : Int} (ha : -4611686018427387904 ≤ a ∧ a ≤ 4611686018427387904) (hn : 0 < n ∧ n ≤ 4611686018427387904) {H : AHeap} {K : CK} (h : K (.returned (iv (rnd a n))) H) : callS P (fnV 60) [iv a, iv n] H K := by
  have h2 : n.tdiv 2 = n / 2 := Int.tdiv_eq_ediv_of_nonneg (by omega)
  have hb : ∀ x : Int, 0 ≤ x → 0 ≤ x.tdiv n ∧ x.tdiv n ≤ x := fun x hx => by
    rw [Int.tdiv_eq_ediv_of_nonneg hx]
    exact ⟨Int.ediv_nonneg hx (by omega), Int.ediv_le_self _ hx⟩
  refine callS_walk tt_ok Try.func60 rfl (by kernel_rfl) ?_
  conv => whnf
  unfold rnd at h
  by_cases h1 : a < 0
  · have h3 := hb (0 - a + n.tdiv 2) (by omega)
    rw [if_pos h1] at h
    repeat' ((conv => whnf); first | apply yA | apply yB | ((first | apply zA | apply zC | apply zE | apply zG); (· assumption)) | ((first | apply zB | apply zD | apply zF | apply zH); (· assumption)) | apply zM | apply zN | apply zO | apply zP | apply zQ | apply zR | apply zS | apply zT | apply zU | (apply zV; (· omega)) | (apply zW; (· omega)) | (apply zX; (· (first | omega | (dsimp only; omega)))) | (apply zY; (try (apply zY; apply zX; (· omega))); apply zX; (· omega); apply zX; (· (first | omega | (dsimp only; omega)))) | ((first | apply zA | apply zC | apply zE | apply zG); (· omega)) | ((first | apply zB | apply zD | apply zF | apply zH); (· omega)) | ((first | apply zI | apply zK); (· assumption)) | ((first | apply zJ | apply zL); (· assumption)) | fail)
    conv => whnf
    exact h
  · have h3 := hb (a + n.tdiv 2) (by omega)
    rw [if_neg h1] at h
    repeat' ((conv => whnf); first | apply yA | apply yB | ((first | apply zA | apply zC | apply zE | apply zG); (· assumption)) | ((first | apply zB | apply zD | apply zF | apply zH); (· assumption)) | apply zM | apply zN | apply zO | apply zP | apply zQ | apply zR | apply zS | apply zT | apply zU | (apply zV; (· omega)) | (apply zW; (· omega)) | (apply zX; (· (first | omega | (dsimp only; omega)))) | (apply zY; (try (apply zY; apply zX; (· omega))); apply zX; (· omega); apply zX; (· (first | omega | (dsimp only; omega)))) | ((first | apply zA | apply zC | apply zE | apply zG); (· omega)) | ((first | apply zB | apply zD | apply zF | apply zH); (· omega)) | ((first | apply zI | apply zK); (· assumption)) | ((first | apply zJ | apply zL); (· assumption)) | fail)
    conv => whnf
    exact h
theorem bounded_c {n m : Int} (hm : -4611686018427387904 ≤ m ∧ m ≤ 4611686018427387904) {H : AHeap} {K : CK} (h : K (.returned (iv (max (0 - m) (min m n)))) H) : callS P (fnV 59) [iv n, iv m] H K := by
  refine callS_walk tt_ok Try.func59 rfl (by kernel_rfl) ?_
  conv => whnf
  repeat' ((conv => whnf); first | apply yA | apply yB | ((first | apply zA | apply zC | apply zE | apply zG); (· assumption)) | ((first | apply zB | apply zD | apply zF | apply zH); (· assumption)) | apply zM | apply zN | apply zO | apply zP | apply zQ | apply zR | apply zS | apply zT | apply zU | (apply zV; (· omega)) | (apply zW; (· omega)) | (apply zX; (· (first | omega | (dsimp only; omega)))) | (apply zY; (try (apply zY; apply zX; (· omega))); apply zX; (· omega); apply zX; (· (first | omega | (dsimp only; omega)))) | ((first | apply zA | apply zC | apply zE | apply zG); (· omega)) | ((first | apply zB | apply zD | apply zF | apply zH); (· omega)) | ((first | apply zI | apply zK); (· assumption)) | ((first | apply zJ | apply zL); (· assumption)) | fail)
  conv => whnf
  exact h

/-- a row of whole numbers in memory -/
def IsRow (H : AHeap) (v : Value) (xs : List Int) : Prop :=
  (∀ x ∈ xs, -9223372036854775808 ≤ x ∧ x ≤ 9223372036854775807) ∧ ((v = .slice none 0 0 ∧ xs = []) ∨
  ∃ i off cap c own sz, v = .slice (some ⟨i, off, none⟩) xs.length cap ∧ H.get i = some (.cells c own sz) ∧ ∀ (k : Nat) x, xs[k]? = some x → c[off + k]? = some (iv x))

def chainStep (a b : Int) : Int := max (0 - 655360) (min 655360 (rnd (a * b) 65536))
def bad (x : Int) : Bool := !(decide (0 ≤ x) && decide (x ≤ 655360))
theorem bad_not {xs : List Int} (h : xs.any bad = false) {x : Int} (hx : x ∈ xs) : 0 ≤ x ∧ x ≤ 655360 := by
  have := List.any_eq_false.1 h x hx
  simp [bad] at this
  exact this
theorem gain_c {n : Int} {H : AHeap} {K : CK} (h : K (.returned (.bool (!bad n))) H) : callS P (fnV 50) [iv n] H K := by
  refine callS_walk tt_ok Try.func50 rfl (by kernel_rfl) ?_
  conv => whnf
  by_cases h1 : 0 ≤ n
  · skip
    repeat' ((conv => whnf); first | (apply drawS_auto mixed tt_ok; (· kernel_rfl)) | apply zZ | apply yA | apply yB | ((first | apply zA | apply zC | apply zE | apply zG); (· assumption)) | ((first | apply zB | apply zD | apply zF | apply zH); (· assumption)) | apply zM | apply zN | apply zO | apply zP | apply zQ | apply zR | apply zS | apply zT | apply zU | (apply zV; (· omega)) | (apply zW; (· omega)) | (apply zX; (· (first | omega | (dsimp only; omega)))) | (apply zY; (try (apply zY; apply zX; (· omega))); apply zX; (· omega); apply zX; (· (first | omega | (dsimp only; omega)))) | ((first | apply zA | apply zC | apply zE | apply zG); (· omega)) | ((first | apply zB | apply zD | apply zF | apply zH); (· omega)) | ((first | apply zI | apply zK); (· assumption)) | ((first | apply zJ | apply zL); (· assumption)) | fail)
    conv => whnf
    simpa [bad, h1] using h
  · skip
    repeat' ((conv => whnf); first | (apply drawS_auto mixed tt_ok; (· kernel_rfl)) | apply zZ | apply yA | apply yB | ((first | apply zA | apply zC | apply zE | apply zG); (· assumption)) | ((first | apply zB | apply zD | apply zF | apply zH); (· assumption)) | apply zM | apply zN | apply zO | apply zP | apply zQ | apply zR | apply zS | apply zT | apply zU | (apply zV; (· omega)) | (apply zW; (· omega)) | (apply zX; (· (first | omega | (dsimp only; omega)))) | (apply zY; (try (apply zY; apply zX; (· omega))); apply zX; (· omega); apply zX; (· (first | omega | (dsimp only; omega)))) | ((first | apply zA | apply zC | apply zE | apply zG); (· omega)) | ((first | apply zB | apply zD | apply zF | apply zH); (· omega)) | ((first | apply zI | apply zK); (· assumption)) | ((first | apply zJ | apply zL); (· assumption)) | fail)
    conv => whnf
    simpa [bad, h1] using h
def rnd2 (a n : Int) : Int := if n - a.tmod n ≤ a.tmod n then a.tdiv n + 1 else a.tdiv n
theorem rounded2_pos {a n : Int} (ha : 0 ≤ a ∧ a ≤ 4611686018427387904) (hn : 0 < n ∧ n ≤ 4611686018427387904) {H : AHeap} {K : CK} (h : K (.returned (iv (rnd2 a n))) H) : callS P (fnV 61) [iv a, iv n] H K := by
  have hd : 0 ≤ a.tdiv n ∧ a.tdiv n ≤ a := by
    rw [Int.tdiv_eq_ediv_of_nonneg ha.1]
    exact ⟨Int.ediv_nonneg ha.1 (by omega), Int.ediv_le_self _ ha.1⟩
  have hm : 0 ≤ a.tmod n ∧ a.tmod n < n := ⟨Int.tmod_nonneg _ ha.1, Int.tmod_lt_of_pos _ hn.1⟩
  have h1 : ¬ a < 0 := by omega
  unfold rnd2 at h
  refine callS_walk tt_ok Try.func61 rfl (by kernel_rfl) ?_
  conv => whnf
  by_cases h2 : n - a.tmod n ≤ a.tmod n
  · rw [if_pos h2] at h
    repeat' ((conv => whnf); first | (apply drawS_auto mixed tt_ok; (· kernel_rfl)) | apply zZ | apply yA | apply yB | ((first | apply zA | apply zC | apply zE | apply zG); (· assumption)) | ((first | apply zB | apply zD | apply zF | apply zH); (· assumption)) | apply zM | apply zN | apply zO | apply zP | apply zQ | apply zR | apply zS | apply zT | apply zU | (apply zV; (· omega)) | (apply zW; (· omega)) | (apply zX; (· (first | omega | (dsimp only; omega)))) | (apply zY; (try (apply zY; apply zX; (· omega))); apply zX; (· omega); apply zX; (· (first | omega | (dsimp only; omega)))) | ((first | apply zA | apply zC | apply zE | apply zG); (· omega)) | ((first | apply zB | apply zD | apply zF | apply zH); (· omega)) | ((first | apply zI | apply zK); (· assumption)) | ((first | apply zJ | apply zL); (· assumption)) | fail)
    conv => whnf
    exact h
  · rw [if_neg h2] at h
    repeat' ((conv => whnf); first | (apply drawS_auto mixed tt_ok; (· kernel_rfl)) | apply zZ | apply yA | apply yB | ((first | apply zA | apply zC | apply zE | apply zG); (· assumption)) | ((first | apply zB | apply zD | apply zF | apply zH); (· assumption)) | apply zM | apply zN | apply zO | apply zP | apply zQ | apply zR | apply zS | apply zT | apply zU | (apply zV; (· omega)) | (apply zW; (· omega)) | (apply zX; (· (first | omega | (dsimp only; omega)))) | (apply zY; (try (apply zY; apply zX; (· omega))); apply zX; (· omega); apply zX; (· (first | omega | (dsimp only; omega)))) | ((first | apply zA | apply zC | apply zE | apply zG); (· omega)) | ((first | apply zB | apply zD | apply zF | apply zH); (· omega)) | ((first | apply zI | apply zK); (· assumption)) | ((first | apply zJ | apply zL); (· assumption)) | fail)
    conv => whnf
    exact h

theorem rounded2_neg {a n : Int} (ha : -4611686018427387904 ≤ a ∧ a < 0) (hn : 0 < n ∧ n ≤ 4611686018427387904) {H : AHeap} {K : CK} (h : K (.returned (iv (0 - rnd2 (0 - a) n))) H) : callS P (fnV 61) [iv a, iv n] H K := by
  have hd : 0 ≤ (0 - a).tdiv n ∧ (0 - a).tdiv n ≤ 0 - a := by
    rw [Int.tdiv_eq_ediv_of_nonneg (by omega)]
    exact ⟨Int.ediv_nonneg (by omega) (by omega), Int.ediv_le_self _ (by omega)⟩
  have hr : 0 ≤ rnd2 (0 - a) n ∧ rnd2 (0 - a) n ≤ 0 - a + 1 := by
    unfold rnd2
    split <;> omega
  have h1 : a < 0 := by omega
  refine callS_walk tt_ok Try.func61 rfl (by kernel_rfl) ?_
  conv => whnf
  repeat' ((conv => whnf); first | (apply drawS_auto mixed tt_ok; (· kernel_rfl)) | apply zZ | apply yA | apply yB | ((first | apply zA | apply zC | apply zE | apply zG); (· assumption)) | ((first | apply zB | apply zD | apply zF | apply zH); (· assumption)) | apply zM | apply zN | apply zO | apply zP | apply zQ | apply zR | apply zS | apply zT | apply zU | (apply zV; (· omega)) | (apply zW; (· omega)) | (apply zX; (· (first | omega | (dsimp only; omega)))) | (apply zY; (try (apply zY; apply zX; (· omega))); apply zX; (· omega); apply zX; (· (first | omega | (dsimp only; omega)))) | ((first | apply zA | apply zC | apply zE | apply zG); (· omega)) | ((first | apply zB | apply zD | apply zF | apply zH); (· omega)) | ((first | apply zI | apply zK); (· assumption)) | ((first | apply zJ | apply zL); (· assumption)) | fail)
  conv => whnf
  refine rounded2_pos (by omega) (by omega) ?_
  repeat' ((conv => whnf); first | (apply drawS_auto mixed tt_ok; (· kernel_rfl)) | apply zZ | apply yA | apply yB | ((first | apply zA | apply zC | apply zE | apply zG); (· assumption)) | ((first | apply zB | apply zD | apply zF | apply zH); (· assumption)) | apply zM | apply zN | apply zO | apply zP | apply zQ | apply zR | apply zS | apply zT | apply zU | (apply zV; (· omega)) | (apply zW; (· omega)) | (apply zX; (· (first | omega | (dsimp only; omega)))) | (apply zY; (try (apply zY; apply zX; (· omega))); apply zX; (· omega); apply zX; (· (first | omega | (dsimp only; omega)))) | ((first | apply zA | apply zC | apply zE | apply zG); (· omega)) | ((first | apply zB | apply zD | apply zF | apply zH); (· omega)) | ((first | apply zI | apply zK); (· assumption)) | ((first | apply zJ | apply zL); (· assumption)) | fail)
  conv => whnf
  exact h
def refStep (n x : Int) : Int := min (rnd2 (n * x) 65536) 655360

def cub (n : Int) : Int := (n * n * n * 65536 + 500000) / 1000000
def chainV (xs : List Int) : Int := bif xs.any bad then 0 else xs.foldl chainStep 65536
def chainE (xs : List Int) : Int := bif xs.any bad then 7 else 0
def cubV (n : Int) : Int := if 0 ≤ n ∧ n ≤ 200 then cub n else 0
def cubE (n : Int) : Int := if 0 ≤ n ∧ n ≤ 200 then 0 else 7
def percAt (g : Int) : Option Nat := (List.range 201).find? fun j => decide (g ≤ cub j)
def percV (g : Int) : Int := bif bad g then 0 else (match percAt g with | some k => (k : Int) | none => 0)
def percE (g : Int) : Int := bif bad g then 7 else (match percAt g with | some _ => 0 | none => 8)
theorem awake_c {H : AHeap} {K : CK} (h : K (.returned (.bool true)) H) : callS P (fnV 8) [] H K :=
  callS_closed mixed tt_ok (n := 40) (by kernel_rfl) h
end Go.Abs
