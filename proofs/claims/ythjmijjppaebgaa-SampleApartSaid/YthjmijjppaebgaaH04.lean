/- What a dither computes, step by step. -/
import Derived.Test.YthjmijjppaebgaaG04
set_option linter.all false
set_option maxHeartbeats 1000000
set_option maxRecDepth 20000
namespace Go.Abs
open Go Go.Proofs

theorem unitF_bd (e : Int) : 256 ≤ unitF e ∧ unitF e ≤ 65536 := by unfold unitF; omega
theorem half_bd (e : Int) : 0 ≤ (unitF e).tdiv 2 ∧ (unitF e).tdiv 2 ≤ 32768 := by
  have := unitF_bd e
  rw [Int.tdiv_eq_ediv_of_nonneg (by omega)]; omega
theorem mod_bd (e : Int) {r : Int} (hr : inD r) : 0 ≤ r.tmod (unitF e) ∧ r.tmod (unitF e) ≤ 65535 := by
  have hu := unitF_bd e
  have h1 := Int.tmod_nonneg (unitF e) hr.1
  have h2 := Int.tmod_lt_of_pos r (by omega : 0 < unitF e)
  omega
theorem unit_shl {e : Int} (he : enc e) (h4 : e ≤ 4) : 1 * 2 ^ (min (24 - bitsF e).toNat 64) = unitF e := by
  rcases (by omega : e = 1 ∨ e = 2 ∨ e = 3 ∨ e = 4) with rfl | rfl | rfl | rfl <;> rfl
theorem maxF4 {e : Int} (h4 : e ≤ 4) : maxF e ≤ 32767 := by unfold maxF; omega
def dstepL (e x r : Int) : Int := max (0 - maxF e) (min (maxF e) (rnd (x + (r.tmod (unitF e) - (unitF e).tdiv 2)) (unitF e)))
def dstepE (e l x : Int) : Int := max (0 - unitF e) (min (unitF e) (l * unitF e - x))
def dR (R : Int) : Nat → Int
  | 0 => R
  | i + 1 => nxt (dR R i)
theorem dR_bd {R : Int} (hR : inD R) : ∀ i, inD (dR R i)
  | 0 => hR
  | i + 1 => nxt_bd (dR_bd hR i)
def dX (b : List (List Int)) (E : List Int) (i : Nat) : Int := at2 b (pc b.length (framesB b) false i) (pf b.length (framesB b) false i) - E.getD (pc b.length (framesB b) false i) 0
def dE (e : Int) (sh : Bool) (b : List (List Int)) (R : Int) (E : List Int) : Nat → List Int
  | 0 => E
  | i + 1 => if sh = true then (dE e sh b R E i).set (pc b.length (framesB b) false i) (dstepE e (dstepL e (dX b (dE e sh b R E i) i) (dR R (i + 1))) (dX b (dE e sh b R E i) i)) else dE e sh b R E i
def dA (e : Int) (sh : Bool) (b : List (List Int)) (R : Int) (E : List Int) (i : Nat) : Int := dX b (dE e sh b R E i) i
def dL (e : Int) (sh : Bool) (b : List (List Int)) (R : Int) (E : List Int) (i : Nat) : Int := dstepL e (dA e sh b R E i) (dR R (i + 1))
theorem dR_0 (R : Int) : dR R 0 = R := rfl
theorem dR_s (R : Int) (i : Nat) : dR R (i + 1) = nxt (dR R i) := rfl
theorem dE_0 (e : Int) (sh : Bool) (b : List (List Int)) (R : Int) (E : List Int) : dE e sh b R E 0 = E := rfl
theorem dE_t (e : Int) (b : List (List Int)) (R : Int) (E : List Int) (i : Nat) : dE e true b R E (i + 1) = (dE e true b R E i).set (pc b.length (framesB b) false i) (dstepE e (dL e true b R E i) (dA e true b R E i)) := rfl
theorem dE_f (e : Int) (b : List (List Int)) (R : Int) (E : List Int) (i : Nat) : dE e false b R E (i + 1) = dE e false b R E i := rfl
theorem dstepE_bd (e l x : Int) : -65536 ≤ dstepE e l x ∧ dstepE e l x ≤ 65536 := by
  have := unitF_bd e
  unfold dstepE
  omega
theorem dstepL_bd (e x r : Int) : 0 - maxF e ≤ dstepL e x r ∧ dstepL e x r ≤ maxF e := by
  have := maxF_bd e
  unfold dstepL
  omega
def okE (E : List Int) : Prop := ∀ x ∈ E, -65536 ≤ x ∧ x ≤ 65536
theorem dE_ok {e : Int} {sh : Bool} {b : List (List Int)} {R : Int} {E : List Int} (h : okE E) : ∀ i, okE (dE e sh b R E i)
  | 0 => h
  | i + 1 => fun x hx => by
    cases sh with
    | false => exact dE_ok h i x hx
    | true =>
      rw [dE_t] at hx
      rcases List.mem_or_eq_of_mem_set hx with h1 | h1
      · exact dE_ok h i x h1
      · rw [h1]; exact dstepE_bd _ _ _
theorem dE_len (e : Int) (sh : Bool) (b : List (List Int)) (R : Int) (E : List Int) : ∀ i, (dE e sh b R E i).length = E.length
  | 0 => rfl
  | i + 1 => by
    cases sh with
    | false => exact dE_len e false b R E i
    | true => rw [dE_t, List.length_set]; exact dE_len e true b R E i
theorem okE_get {E : List Int} (h : okE E) (k : Nat) : -65536 ≤ E.getD k 0 ∧ E.getD k 0 ≤ 65536 := by
  by_cases hk : k < E.length
  · have := h E[k] (List.getElem_mem _)
    simpa [List.getD_eq_getElem?_getD, hk] using this
  · simp [List.getD_eq_getElem?_getD, List.getElem?_eq_none (Nat.le_of_not_lt hk)]
theorem loadK_ints {H : AHeap} {o k : Nat} {xs : List Int} {K : Value → Prop} (h : H.get o = some (.cells (xs.map (Value.int .i64)) true 1)) (hk : k < xs.length) (hK : K (iv (xs.getD k 0))) : loadK H o (0 + (k : Int).toNat * 1) K := by
  refine loadK_get h ?_ hK
  simp [List.getD_eq_getElem?_getD, hk]
theorem storeK_ints {H : AHeap} {o k : Nat} {v : Int} {xs : List Int} {K : AHeap → Prop} (h : H.get o = some (.cells (xs.map (Value.int .i64)) true 1)) (hk : k < xs.length) (hK : K (H.set o (.cells ((xs.set k v).map (Value.int .i64)) true 1))) : storeK H o (0 + (k : Int).toNat * 1) (iv v) K := by
  refine storeK_at h (by simpa using hk) ?_ hK
  simp [List.map_set]
def dLm (e : Int) (sh : Bool) (b : List (List Int)) (R : Int) (E : List Int) (c f : Nat) : Int := dL e sh b R E (idx false b.length (framesB b) c f)
def dM (e : Int) (sh : Bool) (b : List (List Int)) (R : Int) (E : List Int) : List (List Int) := matF (dLm e sh b R E) b.length (framesB b)
theorem dL_eq (e : Int) (sh : Bool) (b : List (List Int)) (R : Int) (E : List Int) (i : Nat) : dL e sh b R E i = max (0 - maxF e) (min (maxF e) (rnd (dA e sh b R E i + ((nxt (dR R i)).tmod (unitF e) - (unitF e).tdiv 2)) (unitF e))) := rfl
theorem dstepE_eq (e l x : Int) : dstepE e l x = max (0 - unitF e) (min (unitF e) (l * unitF e - x)) := rfl
theorem dLm_eq (e : Int) (sh : Bool) (b : List (List Int)) (R : Int) (E : List Int) (c f : Nat) : dLm e sh b R E c f = dL e sh b R E (idx false b.length (framesB b) c f) := rfl
theorem dA_eq (e : Int) (sh : Bool) (b : List (List Int)) (R : Int) (E : List Int) (i : Nat) : dA e sh b R E i = at2 b (pc b.length (framesB b) false i) (pf b.length (framesB b) false i) - (dE e sh b R E i).getD (pc b.length (framesB b) false i) 0 := rfl
theorem dL_bd (e : Int) (sh : Bool) (b : List (List Int)) (R : Int) (E : List Int) (i : Nat) : 0 - maxF e ≤ dL e sh b R E i ∧ dL e sh b R E i ≤ maxF e := dstepL_bd _ _ _
def dithC (b : List (List Int)) (E : List Int) : Int := if blockB b = true then if b.length = E.length then 0 else 11 else 1
def dithS (e : Int) (sh pl : Bool) (b : List (List Int)) (R : Int) (E : List Int) : ByteArray := if dithC b E = 0 then bstr (encM e pl (dM e sh b R E) (b.length * framesB b)) else .empty
def dithR (b : List (List Int)) (R : Int) (E : List Int) : Int := if dithC b E = 0 then dR R (b.length * framesB b) else R
def dithE (e : Int) (sh : Bool) (b : List (List Int)) (R : Int) (E : List Int) : List Int := if dithC b E = 0 then dE e sh b R E (b.length * framesB b) else E
theorem dithR_bd {b : List (List Int)} {R : Int} {E : List Int} (hR : inD R) : inD (dithR b R E) := by
  unfold dithR
  split
  · exact dR_bd hR _
  · exact hR
theorem dithE_ok {e : Int} {sh : Bool} {b : List (List Int)} {R : Int} {E : List Int} (h : okE E) : okE (dithE e sh b R E) := by
  unfold dithE
  split
  · exact dE_ok h _
  · exact h
theorem dithE_len (e : Int) (sh : Bool) (b : List (List Int)) (R : Int) (E : List Int) : (dithE e sh b R E).length = E.length := by
  unfold dithE
  split
  · exact dE_len _ _ _ _ _ _
  · rfl
/-- without shaping there are no errors -/
def plainE (sh : Bool) (E : List Int) : Prop := sh = false → ∀ x ∈ E, x = 0
theorem next2_c {d : Nat} {R : Int} {c1 c2 c3 : Value} {H : AHeap} {K : CK} (hR : inD R) (hd : d < H.size) (hg : H.get d = some (.cells [iv R, c1, c2, c3] true 0))
    (h : ∀ H', H'.size = H.size → (∀ j, j ≠ d → H'.get j = H.get j) → H'.get d = some (.cells [iv (nxt R), c1, c2, c3] true 0) → K (.returned (iv (nxt R))) H') : callS P (fnV 61) [.pointer (some ⟨d, 0, none⟩)] H K :=
  next_c hR hd hg (h _ (AHeap.set_size _ _ _) (fun _ hj => AHeap.set_ne _ _ hj) (AHeap.set_same _ _ _))
end Go.Abs
