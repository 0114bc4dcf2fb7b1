/- Side goals with the tactics that prove them. -/
import Derived.Test.YtpcnnioicfljfaaAbsMat
set_option linter.all false
namespace Go.Abs
open Go
theorem hoA {p : Prop} (h : p := by first | omega | (simp; done) | (simp; omega)) : p := h
theorem hgA {p : Prop} (h : p := by (repeat (first | with_reducible assumption | ((first | apply yP | apply yQ); (first | omega | (simp; done) | (simp; omega))) | ((first | refine (yR _ _ ?_).trans ?_ | refine (yS _ _ ?_).trans ?_ | refine (yT _ ?_).trans ?_ | refine (yU (by with_reducible assumption) _ ?_).trans ?_); (· (first | omega | (simp; done) | (simp; omega)))) | exact rfl | assumption))) : p := h
theorem leA {p : Prop} (h : p := by (repeat (first | exact AHeap.le.refl _ | with_reducible assumption | refine AHeap.le.push ?_ _ | refine AHeap.le.set ?_ (by first | omega | (simp; done) | (simp; omega)) _ | refine AHeap.le.kill ?_ (by first | omega | (simp; done) | (simp; omega))))) : p := h
theorem kpA {p : Prop} (h : p := by (repeat (first | exact Kp.refl _ | with_reducible assumption | refine yV ?_ _ | (apply yW; (case g => exact ⟨_, hgA, rfl⟩)) | (apply yX; (case g => exact ⟨_, hgA, rfl⟩)) | refine Kp.fz ?_ _ | exact yY (by with_reducible assumption) | refine Kp.trans ?_ (yY (by with_reducible assumption))))) : p := h
theorem hsA {p : Prop} (h : p := by (constructor <;> first | trivial | rfl | exact Nat.le_of_ble_eq_true rfl | ((try dsimp only); (try simp only [List.length_map, List.length_cons, List.length_nil, List.length_append, List.length_set, List.length_replicate, List.length_range]); omega))) : p := h
section
variable {H0 H : AHeap} {i off : Nat}
theorem vA {xs : List Int} {k : Nat} {K : Value → Prop} (h : Row H0 (some ⟨i, off, none⟩) xs) (hk : Kp H0 H) (he : k < xs.length) (g : K (.int .i64 (xs[k]))) : loadK H i (off + (k : Int).toNat * 1) K := loadK_rowK h hk ⟨he, g⟩
theorem vB {xs : List Int} {K : Value → Prop} (h : Row H0 (some ⟨i, off, none⟩) xs) (hk : Kp H0 H) (he : 0 < xs.length) (g : K (.int .i64 (xs[0]))) : loadK H i (off + (0 : Int).toNat * 1) K := loadK_row0K h hk ⟨he, g⟩
theorem vC {xs : List Int} {e : Int} {K : Value → Prop} (h : Row H0 (some ⟨i, off, none⟩) xs) (hk : Kp H0 H) (he : e.toNat < xs.length) (g : K (.int .i64 (xs[e.toNat]))) : loadK H i (off + e.toNat * 1) K := loadK_rowZ h hk ⟨he, g⟩
theorem vD {xs : List Bool} {e : Int} {K : Value → Prop} (h : Sl RBool 1 H0 (some ⟨i, off, none⟩) xs) (hk : Kp H0 H) (he : e.toNat < xs.length) (g : K (.bool (xs[e.toNat]))) : loadK H i (off + e.toNat * 1) K := loadK_boolZ h hk ⟨he, g⟩
theorem vE {xs : List ByteArray} {e : Int} {K : Value → Prop} (h : Sl RStr 1 H0 (some ⟨i, off, none⟩) xs) (hk : Kp H0 H) (he : e.toNat < xs.length) (g : K (.string (xs[e.toNat]))) : loadK H i (off + e.toNat * 1) K := loadK_strZ h hk ⟨he, g⟩
theorem vF {xs : List Nat} {e : Int} {K : Value → Prop} (h : Sl RByte 1 H0 (some ⟨i, off, none⟩) xs) (hk : Kp H0 H) (he : e.toNat < xs.length) (g : K (.int .u8 (xs[e.toNat]))) : loadK H i (off + e.toNat * 1) K := loadK_byteZ h hk ⟨he, g⟩
variable {α : Type} {R : VR α} {s : Nat}
theorem vG {xs : List (List α)} {k : Nat} {K : Value → Prop} (h : Sl (RSl R s) 1 H0 (some ⟨i, off, none⟩) xs) (hk : Kp H0 H) (he : k < xs.length) (hp : 0 < xs[k].length)
    (g : Sl R s H0 (some ⟨matI h he hp, matO h he hp, none⟩) xs[k] → xs[k].length ≤ matD h he hp → K (.slice (some ⟨matI h he hp, matO h he hp, none⟩) xs[k].length (matD h he hp))) : loadK H i (off + (k : Int).toNat * 1) K := loadK_matP h hk ⟨he, hp, g⟩
theorem vH {xs : List (List α)} {k : Nat} {K : Value → Prop} (h : Sl (RSl R s) 1 H0 (some ⟨i, off, none⟩) xs) (hk : Kp H0 H) (he : k < xs.length)
    (g : Sl R s H0 (matA h he) xs[k] → CapOk (matA h he) xs[k].length (matC h he) → K (.slice (matA h he) xs[k].length (matC h he))) : loadK H i (off + (k : Int).toNat * 1) K := loadK_matQ h hk ⟨he, g⟩
theorem vI {xs : List (List α)} {K : Value → Prop} (h : Sl (RSl R s) 1 H0 (some ⟨i, off, none⟩) xs) (hk : Kp H0 H) (he : 0 < xs.length) (hp : 0 < xs[0].length)
    (g : Sl R s H0 (some ⟨matI h he hp, matO h he hp, none⟩) xs[0] → xs[0].length ≤ matD h he hp → K (.slice (some ⟨matI h he hp, matO h he hp, none⟩) xs[0].length (matD h he hp))) : loadK H i (off + (0 : Int).toNat * 1) K := loadK_mat0P h hk ⟨he, hp, g⟩
theorem vJ {xs : List (List α)} {K : Value → Prop} (h : Sl (RSl R s) 1 H0 (some ⟨i, off, none⟩) xs) (hk : Kp H0 H) (he : 0 < xs.length)
    (g : Sl R s H0 (matA h he) xs[0] → CapOk (matA h he) xs[0].length (matC h he) → K (.slice (matA h he) xs[0].length (matC h he))) : loadK H i (off + (0 : Int).toNat * 1) K := loadK_mat0Q h hk ⟨he, g⟩
theorem vK {xs : List (List α)} {e : Int} {K : Value → Prop} (h : Sl (RSl R s) 1 H0 (some ⟨i, off, none⟩) xs) (hk : Kp H0 H) (he : e.toNat < xs.length) (hp : 0 < xs[e.toNat].length)
    (g : Sl R s H0 (some ⟨matI h he hp, matO h he hp, none⟩) xs[e.toNat] → xs[e.toNat].length ≤ matD h he hp → K (.slice (some ⟨matI h he hp, matO h he hp, none⟩) xs[e.toNat].length (matD h he hp))) : loadK H i (off + e.toNat * 1) K := loadK_matZP h hk ⟨he, hp, g⟩
theorem vL {xs : List (List α)} {e : Int} {K : Value → Prop} (h : Sl (RSl R s) 1 H0 (some ⟨i, off, none⟩) xs) (hk : Kp H0 H) (he : e.toNat < xs.length)
    (g : Sl R s H0 (matA h he) xs[e.toNat] → CapOk (matA h he) xs[e.toNat].length (matC h he) → K (.slice (matA h he) xs[e.toNat].length (matC h he))) : loadK H i (off + e.toNat * 1) K := loadK_matZQ h hk ⟨he, g⟩
end
end Go.Abs
