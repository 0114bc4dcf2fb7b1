/- From arguments that read as data to what they stand for. -/
import Derived.Test.YtbmbabgkpcnppaaAbsRep
set_option linter.all false
namespace Go.Abs
open Go

/-- an element of type el is read as R says, in sz cells -/
def Dec {α : Type} (tt : Tab) (el : TypeId) (sz : Nat) (R : VR α) : Prop :=
  ∀ (DH : Type) (H : AHeap) (ts : List TypeId) (vs : List Value) (ds : List (DataW DH)), Reads tt H (el :: ts) vs ds →
    ∃ (x : α) (cs vs' : List Value) (ds' : List (DataW DH)), vs = cs ++ vs' ∧ cs.length = sz ∧ R H cs x ∧ Reads tt H ts vs' ds'
/-- fields one behind the other -/
def DecL {α : Type} (tt : Tab) (ts : List TypeId) (sz : Nat) (R : VR α) : Prop :=
  ∀ (DH : Type) (H : AHeap) (us : List TypeId) (vs : List Value) (ds : List (DataW DH)), Reads tt H (ts ++ us) vs ds →
    ∃ (x : α) (cs vs' : List Value) (ds' : List (DataW DH)), vs = cs ++ vs' ∧ cs.length = sz ∧ R H cs x ∧ Reads tt H us vs' ds'
def RNil : VR Unit := fun _ cs _ => cs = []
def RPair {α β : Type} (R : VR α) (S : VR β) : VR (α × β) := fun H cs x => ∃ c1 c2, cs = c1 ++ c2 ∧ R H c1 x.1 ∧ S H c2 x.2

section
variable {tt : Tab}
abbrev dAt (tt : Tab) (t : TypeId) : Option TD := tt[t]?.map (·.d)
abbrev szAt (tt : Tab) (t : TypeId) : Option Nat := tt[t]?.map (·.size)
theorem dAt_eq {t : TypeId} {d : TD} (h : dAt tt t = some d) {e : TE} (he : tt[t]? = some e) : e.d = d := by
  simp only [dAt, he, Option.map_some, Option.some.injEq] at h; exact h
theorem dec_int {t : TypeId} (h : dAt tt t = some (.int .i64)) : Dec tt t 1 RInt := by
  intro DH H ts vs ds hr
  cases hr with
  | int h1 h2 h3 h4 h5 =>
    have := (dAt_eq h h1).symm.trans h2
    cases this
    exact ⟨_, [_], _, _, rfl, rfl, ⟨rfl, h3, h4⟩, h5⟩
  | bool h1 h2 _ => have := (dAt_eq h h1).symm.trans h2; cases this
  | string h1 h2 _ _ => have := (dAt_eq h h1).symm.trans h2; cases this
  | sliceNil h1 h2 _ => have := (dAt_eq h h1).symm.trans h2; cases this
  | slice h1 h2 _ _ _ _ _ _ _ _ _ _ => have := (dAt_eq h h1).symm.trans h2; cases this
  | struct h1 h2 _ _ _ => have := (dAt_eq h h1).symm.trans h2; cases this
  | arr h1 h2 _ _ _ => have := (dAt_eq h h1).symm.trans h2; cases this
theorem dec_bool {t : TypeId} (h : dAt tt t = some .bool) : Dec tt t 1 RBool := by
  intro DH H ts vs ds hr
  cases hr with
  | bool h1 h2 h5 => exact ⟨_, [_], _, _, rfl, rfl, rfl, h5⟩
  | int h1 h2 _ _ _ => have := (dAt_eq h h1).symm.trans h2; cases this
  | string h1 h2 _ _ => have := (dAt_eq h h1).symm.trans h2; cases this
  | sliceNil h1 h2 _ => have := (dAt_eq h h1).symm.trans h2; cases this
  | slice h1 h2 _ _ _ _ _ _ _ _ _ _ => have := (dAt_eq h h1).symm.trans h2; cases this
  | struct h1 h2 _ _ _ => have := (dAt_eq h h1).symm.trans h2; cases this
  | arr h1 h2 _ _ _ => have := (dAt_eq h h1).symm.trans h2; cases this
theorem dec_n {α : Type} {R : VR α} {el : TypeId} {sz : Nat} (hd : Dec tt el sz R) {DH : Type} {H : AHeap} : ∀ (n : Nat) (c : List Value) (ds : List (DataW DH)), Reads tt H (List.replicate n el) c ds →
    ∃ xs : List α, xs.length = n ∧ c.length = n * sz ∧ ∀ k (h : k < xs.length), ∃ cs, (c.drop (k * sz)).take sz = cs ∧ R H cs xs[k]
  | 0, c, ds, h => by cases h; exact ⟨[], rfl, by simp, fun k h => absurd h (by simp)⟩
  | n + 1, c, ds, h => by
    rw [List.replicate_succ] at h
    obtain ⟨x, cs, vs', ds', rfl, hl, hx, hr⟩ := hd DH H _ _ _ h
    obtain ⟨xs, h1, h2, h3⟩ := dec_n hd n vs' ds' hr
    refine ⟨x :: xs, by simp [h1], by rw [List.length_append, hl, h2, Nat.add_mul]; omega, fun k hk => ?_⟩
    cases k with
    | zero => exact ⟨cs, by rw [Nat.zero_mul, List.drop_zero, ← hl, List.take_left], hx⟩
    | succ k =>
      obtain ⟨cs', g1, g2⟩ := h3 k (by simpa using hk)
      refine ⟨cs', ?_, by simpa using g2⟩
      rw [← g1, Nat.add_mul, Nat.one_mul, Nat.add_comm, ← List.drop_drop, ← hl, List.drop_left]
theorem dec_slice {α : Type} {R : VR α} {t el : TypeId} {sz : Nat} (h : dAt tt t = some (.slice el)) (hs : szAt tt el = some sz) (hd : Dec tt el sz R) : Dec tt t 1 (RSl R sz) := by
  intro DH H ts vs ds hr
  cases hr with
  | sliceNil h1 h2 h3 => exact ⟨[], [_], _, _, rfl, rfl, ⟨none, 0, rfl, .nil, fun _ => rfl, Nat.le_refl _⟩, h3⟩
  | @slice _ e ee el' i len cap c es sp _ _ _ h1 h2 h3 h4 h5 h6 h7 h8 h9 h10 h11 h12 =>
    have := (dAt_eq h h1).symm.trans h2
    cases this
    have hsz : ee.size = sz := by simpa [szAt, h3] using hs
    subst hsz
    obtain ⟨xs, g1, g2, g3⟩ := dec_n hd cap c _ h11
    have hl : (xs.take len).length = len := by rw [List.length_take]; omega
    refine ⟨xs.take len, [_], _, _, rfl, rfl, ⟨some ⟨i, 0, none⟩, cap, by rw [hl], .mk ⟨h5, _, h4⟩ (by rw [hl]; unfold maxLen at h8; unfold maxN; omega) (by rw [hl, g2, Nat.zero_add]; exact Nat.mul_le_mul_right _ (by omega)) (fun k hk => ?_), CapOk.of (by rw [hl]; omega)⟩, h12⟩
    rw [hl] at hk
    obtain ⟨cs, q1, q2⟩ := g3 k (by omega)
    refine ⟨cs, by rw [Nat.zero_add]; exact q1, ?_, by rw [List.getElem_take]; exact q2⟩
    have : (k + 1) * ee.size ≤ cap * ee.size := Nat.mul_le_mul_right _ (by omega)
    rw [Nat.add_mul, Nat.one_mul] at this
    omega
  | bool h1 h2 _ => have := (dAt_eq h h1).symm.trans h2; cases this
  | int h1 h2 _ _ _ => have := (dAt_eq h h1).symm.trans h2; cases this
  | string h1 h2 _ _ => have := (dAt_eq h h1).symm.trans h2; cases this
  | struct h1 h2 _ _ _ => have := (dAt_eq h h1).symm.trans h2; cases this
  | arr h1 h2 _ _ _ => have := (dAt_eq h h1).symm.trans h2; cases this
theorem decL_nil : DecL tt [] 0 RNil := fun _ _ _ vs ds h => ⟨(), [], vs, ds, rfl, rfl, rfl, h⟩
theorem decL_cons {α β : Type} {R : VR α} {S : VR β} {t : TypeId} {ts : List TypeId} {a b : Nat} (h1 : Dec tt t a R) (h2 : DecL tt ts b S) : DecL tt (t :: ts) (a + b) (RPair R S) := by
  intro DH H us vs ds h
  obtain ⟨x, cs, vs', ds', rfl, hl, hx, hr⟩ := h1 DH H _ _ _ h
  obtain ⟨y, cs', vs'', ds'', rfl, hl', hy, hr'⟩ := h2 DH H us _ _ hr
  exact ⟨(x, y), cs ++ cs', vs'', ds'', by rw [List.append_assoc], by rw [List.length_append, hl, hl'], ⟨cs, cs', rfl, hx, hy⟩, hr'⟩
theorem dec_struct {α : Type} {R : VR α} {t : TypeId} {fs : List (Nat × TypeId)} {sz : Nat} (h : dAt tt t = some (.struct fs)) (hd : DecL tt (fs.map (·.2)) sz R) : Dec tt t sz R := by
  intro DH H ts vs ds hr
  cases hr with
  | @struct _ e fs' part vs' pd _ _ h1 h2 h3 h4 h5 =>
    have := (dAt_eq h h1).symm.trans h2
    cases this
    obtain ⟨x, cs, vs'', ds'', q1, q2, q3, q4⟩ := hd DH H [] part pd (by simpa using h4)
    cases q4
    rw [List.append_nil] at q1
    subst q1
    exact ⟨x, part, _, _, rfl, q2, q3, h5⟩
  | bool h1 h2 _ => have := (dAt_eq h h1).symm.trans h2; cases this
  | int h1 h2 _ _ _ => have := (dAt_eq h h1).symm.trans h2; cases this
  | string h1 h2 _ _ => have := (dAt_eq h h1).symm.trans h2; cases this
  | sliceNil h1 h2 _ => have := (dAt_eq h h1).symm.trans h2; cases this
  | slice h1 h2 _ _ _ _ _ _ _ _ _ _ => have := (dAt_eq h h1).symm.trans h2; cases this
  | arr h1 h2 _ _ _ => have := (dAt_eq h h1).symm.trans h2; cases this

/-- an argument of one cell -/
theorem arg_one {α : Type} {R : VR α} {DH : Type} {H : AHeap} {t : TypeId} {v : Value} {d : DataW DH} (h : ReadsArg tt H t v d) (hd : Dec tt t 1 R) (ha : (dAt tt t).map TD.agg = some false) : ∃ x, R H [v] x := by
  obtain ⟨e, he, h⟩ := h
  have : e.d.agg = false := by simpa [dAt, he] using ha
  rw [this] at h
  obtain ⟨x, cs, vs', ds', h1, h2, h3, h4⟩ := hd DH H _ _ _ h
  cases h4
  rw [List.append_nil] at h1
  exact ⟨x, h1 ▸ h3⟩
theorem arg_sl {α : Type} {R : VR α} {sz : Nat} {DH : Type} {H : AHeap} {t el : TypeId} {v : Value} {d : DataW DH} (h : ReadsArg tt H t v d) (ht : dAt tt t = some (.slice el)) (hs : szAt tt el = some sz) (hd : Dec tt el sz R) :
    ∃ a cap xs, v = .slice a xs.length cap ∧ Sl R sz H a xs := by
  obtain ⟨xs, a, cap, h1, h2⟩ := arg_one h (dec_slice ht hs hd) (by rw [ht]; rfl)
  cases h1
  exact ⟨a, cap, xs, rfl, h2.1⟩
end
end Go.Abs
