/- Matrices given by a function of their places; slices of the call's own whose elements are frozen. -/
import Derived.Test.YtbmbabgkpcnppaaAbsArg
set_option linter.all false
namespace Go.Abs
open Go

def rowF (f : Nat → Int) (L : Nat) : List Int := (List.range L).map f
def matF (f : Nat → Nat → Int) (n L : Nat) : List (List Int) := (List.range n).map fun i => rowF (f i) L
def at2 (m : List (List Int)) (i c : Nat) : Int := (m.getD i []).getD c 0
@[simp] theorem rowF_len (f : Nat → Int) (L : Nat) : (rowF f L).length = L := by simp [rowF]
@[simp] theorem matF_len (f : Nat → Nat → Int) (n L : Nat) : (matF f n L).length = n := by simp [matF]
theorem matF_get {f : Nat → Nat → Int} {n L k : Nat} (h' : k < (matF f n L).length) : (matF f n L)[k] = rowF (f k) L := by simp [matF]
/-! own matrices -/
section
variable {H : AHeap} {base o n L : Nat} {rs : List Nat} {f : Nat → Nat → Int} {rest : List Value}
theorem OMat.rsl (h : OMat H base o rs (matF f n L) rest) : rs.length = n := by simpa using h.len
theorem OMat.rowP (h : OMat H base o rs (matF f n L) rest) {k : Nat} (hk : k < n) : H.get (rs.getD k 0) = some (.cells ((rowF (f k) L).map (Value.int .i64)) true 1) := by
  have hr : k < rs.length := by rw [h.rsl]; exact hk
  have := h.inner k hr (by simpa using hk)
  rw [matF_get] at this
  simpa [List.getD, hr] using this
theorem OMat.mem (h : OMat H base o rs (matF f n L) rest) {k : Nat} (hk : k < n) : rs.getD k 0 ∈ rs := by
  have hr : k < rs.length := by rw [h.rsl]; exact hk
  simp [List.getD, hr]
theorem OMat.rowC (h : OMat H base o rs (matF f n L) rest) {k : Nat} (hk : k < n) : ∃ c, H.get o = some (.cells c true 1) ∧ c[0 + (k : Int).toNat * 1]? = some (.slice (some ⟨rs.getD k 0, 0, none⟩) L L) := by
  have hr : k < rs.length := by rw [h.rsl]; exact hk
  have hm : k < (matF f n L).length := by simpa using hk
  refine ⟨_, h.outer, ?_⟩
  rw [Int.toNat_natCast, Nat.mul_one, Nat.zero_add, List.getElem?_append_left (by rw [zipS_len h.len]; exact hm), zipS_get hr hm]
  simp [List.getD, hr, matF_get]
/-- loading a row -/
theorem OMat.row (h : OMat H base o rs (matF f n L) rest) {k : Nat} (hk : k < n) {K : Value → Prop} (hK : K (.slice (some ⟨rs.getD k 0, 0, none⟩) L L)) : loadK H o (0 + (k : Int).toNat * 1) K := by
  obtain ⟨c, h1, h2⟩ := h.rowC hk
  exact loadK_get h1 h2 hK
/-- loading a place -/
theorem OMat.at (h : OMat H base o rs (matF f n L) rest) {k j : Nat} (hk : k < n) (hj : j < L) {K : Value → Prop} (hK : K (.int .i64 (f k j))) : loadK H (rs.getD k 0) (0 + (j : Int).toNat * 1) K := by
  refine loadK_get (h.rowP hk) (v := .int .i64 (f k j)) ?_ hK
  simp [rowF, hj]
structure OKeep (H H' : AHeap) (base : Nat) (rs : List Nat) : Prop where
  size : H'.size = H.size
  get : ∀ i, i ∉ rs → H'.get i = H.get i
  le : ∀ H0 : AHeap, H0.size ≤ base → H0.le H → H0.le H'
  kp : ∀ H0 : AHeap, Kp H0 H → Kp H0 H'
theorem OKeep.refl (H : AHeap) (base : Nat) (rs : List Nat) : OKeep H H base rs := ⟨rfl, fun _ _ => rfl, fun _ _ h => h, fun _ h => h⟩
theorem OKeep.trans {H H1 H2 : AHeap} {base : Nat} {rs : List Nat} (h : OKeep H H1 base rs) (g : OKeep H1 H2 base rs) : OKeep H H2 base rs :=
  ⟨g.size.trans h.size, fun i hi => (g.get i hi).trans (h.get i hi), fun H0 hb hle => g.le H0 hb (h.le H0 hb hle), fun H0 hk => g.kp H0 (h.kp H0 hk)⟩
end

/-! slices of the call's own, of elements of one cell each that stand for frozen data -/
def OSl {α : Type} (R : VR α) (H : AHeap) (base : Nat) (v : Value) (xs : List α) : Prop :=
  (v = .slice none 0 0 ∧ xs = []) ∨ ∃ o vs, v = .slice (some ⟨o, 0, none⟩) xs.length xs.length ∧ H.get o = some (.cells vs true 1) ∧ vs.length = xs.length ∧ (∀ k (h : k < xs.length) (h' : k < vs.length), R H [vs[k]] xs[k]) ∧ base ≤ o ∧ o < H.size
theorem OSl.of_get {α : Type} {R : VR α} (hR : MonoR R) {H H' : AHeap} {base : Nat} {v : Value} {xs : List α} (h : OSl R H base v xs) (hk : Kp H H') (hg : ∀ i, base ≤ i → i < H.size → H'.get i = H.get i) : OSl R H' base v xs := by
  rcases h with h | ⟨o, vs, h1, h2, h3, h4, h5, h6⟩
  · exact .inl h
  · exact .inr ⟨o, vs, h1, (hg o h5 h6).trans h2, h3, fun k a b => hR _ _ _ _ hk (h4 k a b), h5, Nat.lt_of_lt_of_le h6 hk.size⟩
theorem OSl.fz {α : Type} {R : VR α} (hR : MonoR R) {H : AHeap} {base b : Nat} {v : Value} {xs : List α} (h : OSl R H base v xs) (hb : b ≤ base) (hn : xs.length ≤ maxN) : ∃ a, v = .slice a xs.length xs.length ∧ Sl R 1 (H.fz b) a xs := by
  rcases h with ⟨rfl, rfl⟩ | ⟨o, vs, h1, h2, h3, h4, h5, h6⟩
  · exact ⟨none, rfl, .nil⟩
  · refine ⟨_, h1, .mk (FB.fz h6 (Nat.le_trans hb h5) h2) hn (by omega) fun k hk => ?_⟩
    have hk' : k < vs.length := by omega
    refine ⟨_, rfl, by omega, ?_⟩
    rw [Nat.zero_add, Nat.mul_one, List.drop_eq_getElem_cons hk', List.take_succ_cons, List.take_zero]
    exact hR _ _ _ _ (Kp.fz (Kp.refl _) _) (h4 k hk hk')
theorem OSl.nil {α : Type} {R : VR α} {H : AHeap} {base : Nat} : OSl R H base (.slice none 0 0) ([] : List α) := .inl ⟨rfl, rfl⟩
theorem OSl.one {α : Type} {R : VR α} {H : AHeap} {base o : Nat} {x : Value} {y : α} (g : H.get o = some (.cells [x] true 1)) (hx : R H [x] y) (ho : base ≤ o ∧ o < H.size) : OSl R H base (.slice (some ⟨o, 0, none⟩) 1 1) [y] :=
  .inr ⟨o, [x], rfl, g, rfl, fun k h h' => by
    have : k = 0 := by simpa using h
    subst this; exact hx, ho⟩
theorem OSl.snoc {α : Type} {R : VR α} (hR : MonoR R) {H H' : AHeap} {base o' : Nat} {vs : List Value} {xs : List α} {x : Value} {y : α} (h3 : vs.length = xs.length) (h4 : ∀ k (h : k < xs.length) (h' : k < vs.length), R H [vs[k]] xs[k]) (hk : Kp H H')
    (g : H'.get o' = some (.cells (vs ++ [x]) true 1)) (hx : R H' [x] y) (ho : base ≤ o' ∧ o' < H'.size) : OSl R H' base (.slice (some ⟨o', 0, none⟩) (xs.length + 1) (xs.length + 1)) (xs ++ [y]) :=
  .inr ⟨o', vs ++ [x], by simp, g, by simp [h3], fun k h h' => by
    by_cases hlt : k < xs.length
    · rw [List.getElem_append_left (by omega), List.getElem_append_left hlt]
      exact hR _ _ _ _ hk (h4 k hlt (by omega))
    · have e : k = xs.length := by simp at h; omega
      subst e
      simp only [List.getElem_append_right (Nat.le_of_eq h3), List.getElem_append_right (Nat.le_refl _)]
      simpa [h3] using hx, ho⟩

theorem WT.bl {t t' : List Value} {x y : Bool} (h : x = y) (g : WT t t') : WT (.bool x :: t) (.bool y :: t') := h ▸ .same g
theorem WT.vv {t t' : List Value} {x y : Value} (h : x = y) (g : WT t t') : WT (x :: t) (y :: t') := h ▸ .same g
theorem ORowV.base {H : AHeap} {b b' : Nat} {v : Value} {xs : List Int} (h : ORowV H b v xs) (hb : b' ≤ b) : ORowV H b' v xs := by
  rcases h with h | ⟨o, h1, h2, h3, h4⟩
  · exact .inl h
  · exact .inr ⟨o, h1, h2, Nat.le_trans hb h3, h4⟩
/-! shifts -/
theorem intK_shl {x y v : Int} {K : Int → Prop} (hv : x * 2 ^ (min y.toNat 64) = v) (hr : -9223372036854775808 ≤ v ∧ v ≤ 9223372036854775807) (hk : K v) : intK .i64 (shlOf .i64 x y) K := by
  have e : shlOf .i64 x y = v := by unfold shlOf; exact hv
  rw [e]
  exact intK_in hr hk
theorem shr_eq {x y : Int} : shrOf .i64 x y = x / 2 ^ (min y.toNat 64) := by
  unfold shrOf
  exact Int.fdiv_eq_ediv_of_nonneg _ (Int.pow_nonneg (by omega))
theorem hl_loadsP {H : AHeap} {i off n : Nat} {K : List Value → Prop} {c cs : List Value} {own : Bool} {sz : Nat} (h : H.get i = some (.cells c own sz)) (hs : off + n ≤ c.length ∧ (c.drop off).take n = cs) (hk : K cs) : loadsK H i off n K := loadsK_of h hs.1 (hs.2 ▸ hk)
abbrev yNP := @hl_loadsP
/-! parts of rows -/
theorem Row.sub {H : AHeap} {i off : Nat} {xs : List Int} (h : Row H (some ⟨i, off, none⟩) xs) {a n : Nat} (hn : a + n ≤ xs.length) : Row H (some ⟨i, off + a, none⟩) ((xs.drop a).take n) := by
  cases h with
  | mk hb hn2 hl hc =>
    have hlen : ((xs.drop a).take n).length = n := by simp; omega
    refine .mk hb (by rw [hlen]; omega) (by rw [hlen]; omega) fun k hk => ?_
    rw [hlen] at hk
    obtain ⟨cs, h1, h2, h3⟩ := hc (a + k) (by omega)
    exact ⟨cs, by rw [← h1]; congr 2; omega, by omega, by rw [List.getElem_take, List.getElem_drop]; exact h3⟩
end Go.Abs
/- Side goals with the tactics that prove them. -/
namespace Go.Abs
open Go
theorem hoA {p : Prop} (h : p := by first | omega | (simp; done) | (simp; omega)) : p := h
theorem hgA {p : Prop} (h : p := by ((repeat (first | with_reducible assumption | ((first | apply yP | apply yQ); (first | omega | (simp; done) | (simp; omega))) | ((first | refine (yR _ _ ?_).trans ?_ | refine (yS _ _ ?_).trans ?_ | refine (yT _ ?_).trans ?_ | refine (yU (by with_reducible assumption) _ ?_).trans ?_); (· (first | omega | (simp; done) | (simp; omega)))) | exact rfl | assumption)); done)) : p := h
theorem leA {p : Prop} (h : p := by ((repeat (first | exact AHeap.le.refl _ | with_reducible assumption | refine AHeap.le.push ?_ _ | refine AHeap.le.set ?_ (by first | omega | (simp; done) | (simp; omega)) _ | refine AHeap.le.kill ?_ (by first | omega | (simp; done) | (simp; omega)))); done)) : p := h
theorem kpA {p : Prop} (h : p := by ((repeat (first | exact Kp.refl _ | with_reducible assumption | refine yV ?_ _ | (apply yW; (case g => exact ⟨_, hgA, rfl⟩)) | (apply yX; (case g => exact ⟨_, hgA, rfl⟩)) | refine Kp.fz ?_ _ | exact yY (by with_reducible assumption) | refine Kp.trans ?_ (yY (by with_reducible assumption)))); done)) : p := h
theorem hsA {p : Prop} (h : p := by (constructor <;> first | trivial | rfl | exact Nat.le_of_ble_eq_true rfl | ((try dsimp only); (try simp only [List.length_map, List.length_cons, List.length_nil, List.length_append, List.length_set, List.length_replicate, List.length_range]); omega))) : p := h
section
variable {H0 H : AHeap} {i off : Nat}
theorem vA {xs : List Int} {k : Nat} {K : Value → Prop} (h : Row H0 (some ⟨i, off, none⟩) xs) (hk : Kp H0 H) (he : k < xs.length) (g : K (.int .i64 (xs[k]))) : loadK H i (off + (k : Int).toNat * 1) K := loadK_rowK h hk ⟨he, g⟩
theorem vB {xs : List Int} {K : Value → Prop} (h : Row H0 (some ⟨i, off, none⟩) xs) (hk : Kp H0 H) (he : 0 < xs.length) (g : K (.int .i64 (xs[0]))) : loadK H i (off + (0 : Int).toNat * 1) K := loadK_row0K h hk ⟨he, g⟩
theorem vC {xs : List Int} {e : Int} {K : Value → Prop} (h : Row H0 (some ⟨i, off, none⟩) xs) (hk : Kp H0 H) (he : e.toNat < xs.length) (g : K (.int .i64 (xs[e.toNat]))) : loadK H i (off + e.toNat * 1) K := loadK_rowZ h hk ⟨he, g⟩
theorem vD {xs : List Bool} {e : Int} {K : Value → Prop} (h : Sl RBool 1 H0 (some ⟨i, off, none⟩) xs) (hk : Kp H0 H) (he : e.toNat < xs.length) (g : K (.bool (xs[e.toNat]))) : loadK H i (off + e.toNat * 1) K := loadK_boolZ h hk ⟨he, g⟩
theorem vE {xs : List ByteArray} {e : Int} {K : Value → Prop} (h : Sl RStr 1 H0 (some ⟨i, off, none⟩) xs) (hk : Kp H0 H) (he : e.toNat < xs.length) (g : K (.string (xs[e.toNat]))) : loadK H i (off + e.toNat * 1) K := loadK_strZ h hk ⟨he, g⟩
theorem vF {xs : List Nat} {e : Int} {K : Value → Prop} (h : Sl RByte 1 H0 (some ⟨i, off, none⟩) xs) (hk : Kp H0 H) (he : e.toNat < xs.length) (g : K (.int .u8 (xs[e.toNat]))) : loadK H i (off + e.toNat * 1) K := loadK_byteZ h hk ⟨he, g⟩
variable {α : Type} {R : VR α} {s : Nat}
theorem vG {xs : List (List α)} {k : Nat} {K : Value → Prop} (h : Sl (RSl R s) 1 H0 (some ⟨i, off, none⟩) xs) (hk : Kp H0 H) (he : k < xs.length) (hp : 0 < xs[k].length)
    (g : Sl R s H0 (some ⟨matI h he hp, matO h he hp, none⟩) xs[k] → xs[k].length ≤ matD h he hp → K (.slice (some ⟨matI h he hp, matO h he hp, none⟩) xs[k].length (matD h he hp))) : loadK H i (off + (k : Int).toNat * 1) K := loadK_matP h hk ⟨he, hp, g⟩
theorem vH {xs : List (List α)} {k : Nat} {K : Value → Prop} (h : Sl (RSl R s) 1 H0 (some ⟨i, off, none⟩) xs) (hk : Kp H0 H) (he : k < xs.length)
    (g : Sl R s H0 (matA h he) xs[k] → CapOk (matA h he) xs[k].length (matC h he) → K (.slice (matA h he) xs[k].length (matC h he))) : loadK H i (off + (k : Int).toNat * 1) K := loadK_matQ h hk ⟨he, g⟩
theorem vI {xs : List (List α)} {K : Value → Prop} (h : Sl (RSl R s) 1 H0 (some ⟨i, off, none⟩) xs) (hk : Kp H0 H) (he : 0 < xs.length) (hp : 0 < xs[0].length)
    (g : Sl R s H0 (some ⟨matI h he hp, matO h he hp, none⟩) xs[0] → xs[0].length ≤ matD h he hp → K (.slice (some ⟨matI h he hp, matO h he hp, none⟩) xs[0].length (matD h he hp))) : loadK H i (off + (0 : Int).toNat * 1) K := loadK_mat0P h hk ⟨he, hp, g⟩
theorem vJ {xs : List (List α)} {K : Value → Prop} (h : Sl (RSl R s) 1 H0 (some ⟨i, off, none⟩) xs) (hk : Kp H0 H) (he : 0 < xs.length)
    (g : Sl R s H0 (matA h he) xs[0] → CapOk (matA h he) xs[0].length (matC h he) → K (.slice (matA h he) xs[0].length (matC h he))) : loadK H i (off + (0 : Int).toNat * 1) K := loadK_mat0Q h hk ⟨he, g⟩
theorem vK {xs : List (List α)} {e : Int} {K : Value → Prop} (h : Sl (RSl R s) 1 H0 (some ⟨i, off, none⟩) xs) (hk : Kp H0 H) (he : e.toNat < xs.length) (hp : 0 < xs[e.toNat].length)
    (g : Sl R s H0 (some ⟨matI h he hp, matO h he hp, none⟩) xs[e.toNat] → xs[e.toNat].length ≤ matD h he hp → K (.slice (some ⟨matI h he hp, matO h he hp, none⟩) xs[e.toNat].length (matD h he hp))) : loadK H i (off + e.toNat * 1) K := loadK_matZP h hk ⟨he, hp, g⟩
theorem vL {xs : List (List α)} {e : Int} {K : Value → Prop} (h : Sl (RSl R s) 1 H0 (some ⟨i, off, none⟩) xs) (hk : Kp H0 H) (he : e.toNat < xs.length)
    (g : Sl R s H0 (matA h he) xs[e.toNat] → CapOk (matA h he) xs[e.toNat].length (matC h he) → K (.slice (matA h he) xs[e.toNat].length (matC h he))) : loadK H i (off + e.toNat * 1) K := loadK_matZQ h hk ⟨he, g⟩
end
end Go.Abs
