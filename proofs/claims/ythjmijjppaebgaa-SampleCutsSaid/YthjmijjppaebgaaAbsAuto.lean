/- Side goals with the tactics that prove them. -/
import Derived.Test.YthjmijjppaebgaaAbsMat
import Derived.Test.YthjmijjppaebgaaProg
set_option linter.all false
namespace Go.Abs
open Go
theorem hoA {p : Prop} (h : p := by first | omega | (simp; done) | (simp; omega)) : p := h
theorem hgA {p : Prop} (h : p := by (repeat (first | with_reducible assumption | ((first | apply yP | apply yQ); (first | omega | (simp; done) | (simp; omega))) | ((first | refine (yR _ _ ?_).trans ?_ | refine (yS _ _ ?_).trans ?_ | refine (yT _ ?_).trans ?_ | refine (yU (by with_reducible assumption) _ ?_).trans ?_); (· (first | omega | (simp; done) | (simp; omega)))) | exact rfl | assumption))) : p := h
theorem leA {p : Prop} (h : p := by (repeat (first | exact AHeap.le.refl _ | with_reducible assumption | refine AHeap.le.push ?_ _ | refine AHeap.le.set ?_ (by first | omega | (simp; done) | (simp; omega)) _ | refine AHeap.le.kill ?_ (by first | omega | (simp; done) | (simp; omega))))) : p := h
theorem kpA {p : Prop} (h : p := by (repeat (first | exact Kp.refl _ | with_reducible assumption | refine yV ?_ _ | (apply yW; (case g => exact ⟨_, hgA, rfl⟩)) | (apply yX; (case g => exact ⟨_, hgA, rfl⟩)) | refine Kp.fz ?_ _ | exact yY (by with_reducible assumption) | refine Kp.trans ?_ (yY (by with_reducible assumption))))) : p := h
theorem mtA {p : Prop} (h : p := by (first | with_reducible assumption | exact Mat.kp (by with_reducible assumption) kpA | exact Row.kp (by with_reducible assumption) kpA | exact Sl.kp (rSl_mono (rSl_mono rInt_mono)) (by with_reducible assumption) kpA | assumption)) : p := h
theorem hsA {p : Prop} (h : p := by (constructor <;> first | trivial | rfl | exact Nat.le_of_ble_eq_true rfl | ((try dsimp only); (try simp only [List.length_map, List.length_cons, List.length_nil, List.length_append, List.length_set, List.length_replicate, List.length_range]); omega))) : p := h
section
variable {H0 H : AHeap} {i off : Nat}
theorem vA {xs : List Int} {k : Nat} {K : Value → Prop} (h : Row H0 (some ⟨i, off, none⟩) xs) (hk : Kp H0 H) (he : k < xs.length) (g : K (.int .i64 (xs[k]))) : loadK H i (off + (k : Int).toNat * 1) K := loadK_rowK h hk ⟨he, g⟩
theorem vB {xs : List Int} {K : Value → Prop} (h : Row H0 (some ⟨i, off, none⟩) xs) (hk : Kp H0 H) (he : 0 < xs.length) (g : K (.int .i64 (xs[0]))) : loadK H i (off + (0 : Int).toNat * 1) K := loadK_row0K h hk ⟨he, g⟩
theorem vC {xs : List Int} {e : Int} {K : Value → Prop} (h : Row H0 (some ⟨i, off, none⟩) xs) (hk : Kp H0 H) (he : e.toNat < xs.length) (g : K (.int .i64 (xs[e.toNat]))) : loadK H i (off + e.toNat * 1) K := loadK_rowZ h hk ⟨he, g⟩
variable {α : Type} {R : VR α} {s : Nat}
theorem vG {xs : List (List α)} {k : Nat} {K : Value → Prop} (h : Sl (RSl R s) 1 H0 (some ⟨i, off, none⟩) xs) (hk : Kp H0 H) (he : k < xs.length) (hp : 0 < xs[k].length)
    (g : Sl R s H0 (some ⟨matI h he hp, matO h he hp, none⟩) xs[k] → xs[k].length ≤ matD h he hp → K (.slice (some ⟨matI h he hp, matO h he hp, none⟩) xs[k].length (matD h he hp))) : loadK H i (off + (k : Int).toNat * 1) K := loadK_matP h hk ⟨he, hp, g⟩
theorem vH {xs : List (List α)} {k : Nat} {K : Value → Prop} (h : Sl (RSl R s) 1 H0 (some ⟨i, off, none⟩) xs) (hk : Kp H0 H) (he : k < xs.length)
    (g : Sl R s H0 (matA h he) xs[k] → CapOk (matA h he) xs[k].length (matC h he) → K (.slice (matA h he) xs[k].length (matC h he))) : loadK H i (off + (k : Int).toNat * 1) K := loadK_matQ h hk ⟨he, g⟩
theorem vI {xs : List (List α)} {K : Value → Prop} (h : Sl (RSl R s) 1 H0 (some ⟨i, off, none⟩) xs) (hk : Kp H0 H) (he : 0 < xs.length) (hp : 0 < xs[0].length)
    (g : Sl R s H0 (some ⟨matI h he hp, matO h he hp, none⟩) xs[0] → xs[0].length ≤ matD h he hp → K (.slice (some ⟨matI h he hp, matO h he hp, none⟩) xs[0].length (matD h he hp))) : loadK H i (off + (0 : Int).toNat * 1) K := loadK_mat0P h hk ⟨he, hp, g⟩
theorem vJ {xs : List (List α)} {K : Value → Prop} (h : Sl (RSl R s) 1 H0 (some ⟨i, off, none⟩) xs) (hk : Kp H0 H) (he : 0 < xs.length)
    (g : Sl R s H0 (matA h he) xs[0] → CapOk (matA h he) xs[0].length (matC h he) → K (.slice (matA h he) xs[0].length (matC h he))) : loadK H i (off + (0 : Int).toNat * 1) K := loadK_mat0Q h hk ⟨he, g⟩
theorem vK {xs : List (List α)} {e : Int} {K : Value → Prop} (h : Sl (RSl R s) 1 H0 (some ⟨i, off, none⟩) xs) (hk : Kp H0 H) (he : e.toNat < xs.length) (hp : 0 < xs[e.toNat].length)
    (g : Sl R s H0 (some ⟨matI h he hp, matO h he hp, none⟩) xs[e.toNat] → xs[e.toNat].length ≤ matD h he hp → K (.slice (some ⟨matI h he hp, matO h he hp, none⟩) xs[e.toNat].length (matD h he hp))) : loadK H i (off + e.toNat * 1) K := loadK_matZP h hk ⟨he, hp, g⟩
theorem vL {xs : List (List α)} {e : Int} {K : Value → Prop} (h : Sl (RSl R s) 1 H0 (some ⟨i, off, none⟩) xs) (hk : Kp H0 H) (he : e.toNat < xs.length)
    (g : Sl R s H0 (matA h he) xs[e.toNat] → CapOk (matA h he) xs[e.toNat].length (matC h he) → K (.slice (matA h he) xs[e.toNat].length (matC h he))) : loadK H i (off + e.toNat * 1) K := loadK_matZQ h hk ⟨he, g⟩
end
end Go.Abs
/- The light table of the types. -/
namespace Go.Abs
open Go Go.Proofs

def tt : Tab := [
  ⟨.other, 0, 0, .nilIface, []⟩,
  ⟨.func, 1, 8, .nilFunc, []⟩,
  ⟨.int .i64, 1, 8, .int .i64 0, []⟩,
  ⟨.int .i64, 1, 8, .int .i64 0, []⟩,
  ⟨.bool, 1, 1, .bool false, []⟩,
  ⟨.int .u8, 1, 1, .int .u8 0, []⟩,
  ⟨.int .u8, 1, 1, .int .u8 0, []⟩,
  ⟨.struct [(0, 2), (1, 3), (2, 4), (3, 6)], 4, 24, .agg #[.int .i64 0, .int .i64 0, .bool false, .int .u8 0], []⟩,
  ⟨.struct [(0, 2), (1, 3), (2, 4), (3, 6)], 4, 24, .agg #[.int .i64 0, .int .i64 0, .bool false, .int .u8 0], []⟩,
  ⟨.string, 1, 16, .string .empty, []⟩,
  ⟨.string, 1, 16, .string .empty, []⟩,
  ⟨.string, 1, 16, .string .empty, []⟩,
  ⟨.int .u64, 1, 8, .int .u64 0, []⟩,
  ⟨.struct [(0, 9), (1, 12)], 2, 24, .agg #[.string .empty, .int .u64 0], []⟩,
  ⟨.struct [(0, 9), (1, 12)], 2, 24, .agg #[.string .empty, .int .u64 0], []⟩,
  ⟨.ptr 116, 1, 8, .pointer none, []⟩,
  ⟨.ptr 119, 1, 8, .pointer none, []⟩,
  ⟨.ptr 128, 1, 8, .pointer none, []⟩,
  ⟨.struct [(0, 17)], 1, 8, .agg #[.pointer none], []⟩,
  ⟨.struct [(0, 17)], 1, 8, .agg #[.pointer none], []⟩,
  ⟨.iface [], 1, 16, .nilIface, []⟩,
  ⟨.int .i32, 1, 4, .int .i32 0, []⟩,
  ⟨.int .i64, 1, 8, .int .i64 0, []⟩,
  ⟨.other, 0, 0, .nilIface, []⟩,
  ⟨.func, 1, 8, .nilFunc, []⟩,
  ⟨.func, 1, 8, .nilFunc, []⟩,
  ⟨.func, 1, 8, .nilFunc, []⟩,
  ⟨.func, 1, 8, .nilFunc, []⟩,
  ⟨.func, 1, 8, .nilFunc, []⟩,
  ⟨.slice 40, 1, 24, .slice none 0 0, []⟩,
  ⟨.slice 40, 1, 24, .slice none 0 0, []⟩,
  ⟨.func, 1, 8, .nilFunc, []⟩,
  ⟨.ptr 80, 1, 8, .pointer none, ["Encode", "Errors", "Copy"]⟩,
  ⟨.other, 0, 0, .nilIface, []⟩,
  ⟨.func, 1, 8, .nilFunc, []⟩,
  ⟨.other, 0, 0, .nilIface, []⟩,
  ⟨.func, 1, 8, .nilFunc, []⟩,
  ⟨.func, 1, 8, .nilFunc, []⟩,
  ⟨.other, 0, 0, .nilIface, []⟩,
  ⟨.func, 1, 8, .nilFunc, []⟩,
  ⟨.slice 3, 1, 24, .slice none 0 0, []⟩,
  ⟨.func, 1, 8, .nilFunc, []⟩,
  ⟨.func, 1, 8, .nilFunc, []⟩,
  ⟨.func, 1, 8, .nilFunc, []⟩,
  ⟨.func, 1, 8, .nilFunc, []⟩,
  ⟨.func, 1, 8, .nilFunc, []⟩,
  ⟨.func, 1, 8, .nilFunc, []⟩,
  ⟨.slice 30, 1, 24, .slice none 0 0, []⟩,
  ⟨.func, 1, 8, .nilFunc, []⟩,
  ⟨.struct [(0, 3), (1, 3), (2, 4), (3, 3), (4, 40)], 5, 56, .agg #[.int .i64 0, .int .i64 0, .bool false, .int .i64 0, .slice none 0 0], []⟩,
  ⟨.struct [(0, 3), (1, 3), (2, 4), (3, 3), (4, 40)], 5, 56, .agg #[.int .i64 0, .int .i64 0, .bool false, .int .i64 0, .slice none 0 0], ["Encode"]⟩,
  ⟨.other, 0, 0, .nilIface, []⟩,
  ⟨.func, 1, 8, .nilFunc, []⟩,
  ⟨.func, 1, 8, .nilFunc, []⟩,
  ⟨.other, 0, 0, .nilIface, []⟩,
  ⟨.func, 1, 8, .nilFunc, []⟩,
  ⟨.func, 1, 8, .nilFunc, []⟩,
  ⟨.other, 0, 0, .nilIface, []⟩,
  ⟨.func, 1, 8, .nilFunc, []⟩,
  ⟨.func, 1, 8, .nilFunc, []⟩,
  ⟨.func, 1, 8, .nilFunc, []⟩,
  ⟨.func, 1, 8, .nilFunc, []⟩,
  ⟨.func, 1, 8, .nilFunc, []⟩,
  ⟨.func, 1, 8, .nilFunc, []⟩,
  ⟨.func, 1, 8, .nilFunc, []⟩,
  ⟨.other, 0, 0, .nilIface, []⟩,
  ⟨.func, 1, 8, .nilFunc, []⟩,
  ⟨.func, 1, 8, .nilFunc, []⟩,
  ⟨.func, 1, 8, .nilFunc, []⟩,
  ⟨.iface [("continuo/sample.bits", 73), ("continuo/sample.put", 85), ("continuo/sample.take", 97)], 1, 16, .nilIface, []⟩,
  ⟨.iface [("continuo/sample.bits", 73), ("continuo/sample.put", 85), ("continuo/sample.take", 97)], 1, 16, .nilIface, []⟩,
  ⟨.slice 70, 1, 24, .slice none 0 0, []⟩,
  ⟨.func, 1, 8, .nilFunc, []⟩,
  ⟨.func, 1, 8, .nilFunc, []⟩,
  ⟨.func, 1, 8, .nilFunc, []⟩,
  ⟨.func, 1, 8, .nilFunc, []⟩,
  ⟨.func, 1, 8, .nilFunc, []⟩,
  ⟨.struct [(0, 3)], 1, 8, .agg #[.int .i64 0], []⟩,
  ⟨.struct [(0, 3)], 1, 8, .agg #[.int .i64 0], []⟩,
  ⟨.struct [(0, 78), (1, 3), (2, 4), (3, 40)], 4, 48, .agg #[.int .i64 0, .int .i64 0, .bool false, .slice none 0 0], []⟩,
  ⟨.struct [(0, 78), (1, 3), (2, 4), (3, 40)], 4, 48, .agg #[.int .i64 0, .int .i64 0, .bool false, .slice none 0 0], []⟩,
  ⟨.func, 1, 8, .nilFunc, []⟩,
  ⟨.func, 1, 8, .nilFunc, []⟩,
  ⟨.func, 1, 8, .nilFunc, []⟩,
  ⟨.slice 5, 1, 24, .slice none 0 0, []⟩,
  ⟨.func, 1, 8, .nilFunc, []⟩,
  ⟨.func, 1, 8, .nilFunc, []⟩,
  ⟨.func, 1, 8, .nilFunc, []⟩,
  ⟨.func, 1, 8, .nilFunc, []⟩,
  ⟨.func, 1, 8, .nilFunc, []⟩,
  ⟨.func, 1, 8, .nilFunc, []⟩,
  ⟨.func, 1, 8, .nilFunc, []⟩,
  ⟨.ptr 22, 1, 8, .pointer none, []⟩,
  ⟨.func, 1, 8, .nilFunc, []⟩,
  ⟨.func, 1, 8, .nilFunc, []⟩,
  ⟨.func, 1, 8, .nilFunc, []⟩,
  ⟨.func, 1, 8, .nilFunc, []⟩,
  ⟨.func, 1, 8, .nilFunc, []⟩,
  ⟨.func, 1, 8, .nilFunc, []⟩,
  ⟨.func, 1, 8, .nilFunc, []⟩,
  ⟨.func, 1, 8, .nilFunc, []⟩,
  ⟨.struct [(0, 3), (1, 4)], 2, 16, .agg #[.int .i64 0, .bool false], []⟩,
  ⟨.struct [(0, 3), (1, 4)], 2, 16, .agg #[.int .i64 0, .bool false], ["continuo/sample.bits", "continuo/sample.put", "continuo/sample.take", "continuo/sample.place"]⟩,
  ⟨.struct [], 0, 0, .agg #[], []⟩,
  ⟨.struct [], 0, 0, .agg #[], ["continuo/sample.bits", "continuo/sample.put", "continuo/sample.take"]⟩,
  ⟨.func, 1, 8, .nilFunc, []⟩,
  ⟨.func, 1, 8, .nilFunc, []⟩,
  ⟨.ptr 78, 1, 8, .pointer none, ["continuo/sample.next"]⟩,
  ⟨.func, 1, 8, .nilFunc, []⟩,
  ⟨.struct [(0, 22)], 1, 8, .agg #[.int .i64 0], []⟩,
  ⟨.struct [(0, 22)], 1, 8, .agg #[.int .i64 0], []⟩,
  ⟨.other, 0, 0, .nilIface, []⟩,
  ⟨.func, 1, 8, .nilFunc, []⟩,
  ⟨.int .u64, 1, 8, .int .u64 0, []⟩,
  ⟨.func, 1, 8, .nilFunc, []⟩,
  ⟨.struct [(0, 17), (1, 17), (2, 17), (3, 9)], 4, 40, .agg #[.pointer none, .pointer none, .pointer none, .string .empty], []⟩,
  ⟨.struct [(0, 17), (1, 17), (2, 17), (3, 9)], 4, 40, .agg #[.pointer none, .pointer none, .pointer none, .string .empty], []⟩,
  ⟨.arr 0 16, 0, 0, .agg #[], []⟩,
  ⟨.struct [(0, 117)], 0, 0, .agg #[], []⟩,
  ⟨.struct [(0, 117)], 0, 0, .agg #[], []⟩,
  ⟨.int .u32, 1, 4, .int .u32 0, []⟩,
  ⟨.int .u8, 1, 1, .int .u8 0, []⟩,
  ⟨.int .u8, 1, 1, .int .u8 0, []⟩,
  ⟨.func, 1, 8, .nilFunc, []⟩,
  ⟨.ptr 5, 1, 8, .pointer none, []⟩,
  ⟨.int .i32, 1, 4, .int .i32 0, []⟩,
  ⟨.int .i32, 1, 4, .int .i32 0, []⟩,
  ⟨.struct [(0, 12), (1, 12), (2, 120), (3, 121), (4, 5), (5, 5), (6, 122), (7, 123), (8, 124), (9, 125), (10, 126)], 11, 48, .agg #[.int .u64 0, .int .u64 0, .int .u32 0, .int .u8 0, .int .u8 0, .int .u8 0, .int .u8 0, .nilFunc, .pointer none, .int .i32 0, .int .i32 0], []⟩,
  ⟨.struct [(0, 12), (1, 12), (2, 120), (3, 121), (4, 5), (5, 5), (6, 122), (7, 123), (8, 124), (9, 125), (10, 126)], 11, 48, .agg #[.int .u64 0, .int .u64 0, .int .u32 0, .int .u8 0, .int .u8 0, .int .u8 0, .int .u8 0, .nilFunc, .pointer none, .int .i32 0, .int .i32 0], []⟩,
  ⟨.other, 0, 0, .nilIface, []⟩]
theorem tt_ok : TyOk Try.prog tt := tyOk_of (by kernel_rfl)

theorem mixed : Try.prog.follows .mixedOrders = true := by kernel_rfl
abbrev fnV (f : FuncId) : Value := .func (.func f) #[] #[]
abbrev iv (n : Int) : Value := .int .i64 n
noncomputable abbrev P : Program := Try.prog
end Go.Abs
