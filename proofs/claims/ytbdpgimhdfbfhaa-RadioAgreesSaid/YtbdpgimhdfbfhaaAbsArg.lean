/- From arguments that read as data to what they stand for. -/
import Derived.Test.YtbdpgimhdfbfhaaAbsRep
set_option linter.all false
namespace Go.Abs
open Go

/-- an element of type el is read as R says, in sz cells -/
def Dec {α : Type} (tt : Tab) (el : TypeId) (sz : Nat) (R : VR α) : Prop :=
  ∀ (DH : Type) (H : AHeap) (ts : List TypeId) (vs : List Value) (ds : List (DataW DH)), Reads tt H (el :: ts) vs ds →
    ∃ (x : α) (cs vs' : List Value) (ds' : List (DataW DH)), vs = cs ++ vs' ∧ cs.length = sz ∧ R H cs x ∧ Reads tt H ts vs' ds'
/-- fields one behind the other -/
def DecL {α : Type} (tt : Tab) (ts : List TypeId) (sz : Nat) (R : VR α) : Prop :=
  ∀ (DH : Type) (H : AHeap) (us : List TypeId) (vs : List Value) (ds : List (DataW DH)), Reads tt H (ts ++ us) vs ds →
    ∃ (x : α) (cs vs' : List Value) (ds' : List (DataW DH)), vs = cs ++ vs' ∧ cs.length = sz ∧ R H cs x ∧ Reads tt H us vs' ds'
def RNil : VR Unit := fun _ cs _ => cs = []
def RPair {α β : Type} (R : VR α) (S : VR β) : VR (α × β) := fun H cs x => ∃ c1 c2, cs = c1 ++ c2 ∧ R H c1 x.1 ∧ S H c2 x.2

section
variable {tt : Tab}
abbrev dAt (tt : Tab) (t : TypeId) : Option TD := tt[t]?.map (·.d)
abbrev szAt (tt : Tab) (t : TypeId) : Option Nat := tt[t]?.map (·.size)
theorem dAt_eq {t : TypeId} {d : TD} (h : dAt tt t = some d) {e : TE} (he : tt[t]? = some e) : e.d = d := by
  simp only [dAt, he, Option.map_some, Option.some.injEq] at h; exact h
theorem dec_int {t : TypeId} (h : dAt tt t = some (.int .i64)) : Dec tt t 1 RInt := by
  intro DH H ts vs ds hr
  cases hr with
  | int h1 h2 h3 h4 h5 =>
    have := (dAt_eq h h1).symm.trans h2
    cases this
    exact ⟨_, [_], _, _, rfl, rfl, ⟨rfl, h3, h4⟩, h5⟩
  | bool h1 h2 _ => have := (dAt_eq h h1).symm.trans h2; cases this
  | string h1 h2 _ _ => have := (dAt_eq h h1).symm.trans h2; cases this
  | sliceNil h1 h2 _ => have := (dAt_eq h h1).symm.trans h2; cases this
  | slice h1 h2 _ _ _ _ _ _ _ _ _ _ => have := (dAt_eq h h1).symm.trans h2; cases this
  | struct h1 h2 _ _ _ => have := (dAt_eq h h1).symm.trans h2; cases this
  | arr h1 h2 _ _ _ => have := (dAt_eq h h1).symm.trans h2; cases this
theorem decL_nil : DecL tt [] 0 RNil := fun _ _ _ vs ds h => ⟨(), [], vs, ds, rfl, rfl, rfl, h⟩
theorem decL_cons {α β : Type} {R : VR α} {S : VR β} {t : TypeId} {ts : List TypeId} {a b : Nat} (h1 : Dec tt t a R) (h2 : DecL tt ts b S) : DecL tt (t :: ts) (a + b) (RPair R S) := by
  intro DH H us vs ds h
  obtain ⟨x, cs, vs', ds', rfl, hl, hx, hr⟩ := h1 DH H _ _ _ h
  obtain ⟨y, cs', vs'', ds'', rfl, hl', hy, hr'⟩ := h2 DH H us _ _ hr
  exact ⟨(x, y), cs ++ cs', vs'', ds'', by rw [List.append_assoc], by rw [List.length_append, hl, hl'], ⟨cs, cs', rfl, hx, hy⟩, hr'⟩
theorem dec_struct {α : Type} {R : VR α} {t : TypeId} {fs : List (Nat × TypeId)} {sz : Nat} (h : dAt tt t = some (.struct fs)) (hd : DecL tt (fs.map (·.2)) sz R) : Dec tt t sz R := by
  intro DH H ts vs ds hr
  cases hr with
  | @struct _ e fs' part vs' pd _ _ h1 h2 h3 h4 h5 =>
    have := (dAt_eq h h1).symm.trans h2
    cases this
    obtain ⟨x, cs, vs'', ds'', q1, q2, q3, q4⟩ := hd DH H [] part pd (by simpa using h4)
    cases q4
    rw [List.append_nil] at q1
    subst q1
    exact ⟨x, part, _, _, rfl, q2, q3, h5⟩
  | bool h1 h2 _ => have := (dAt_eq h h1).symm.trans h2; cases this
  | int h1 h2 _ _ _ => have := (dAt_eq h h1).symm.trans h2; cases this
  | string h1 h2 _ _ => have := (dAt_eq h h1).symm.trans h2; cases this
  | sliceNil h1 h2 _ => have := (dAt_eq h h1).symm.trans h2; cases this
  | slice h1 h2 _ _ _ _ _ _ _ _ _ _ => have := (dAt_eq h h1).symm.trans h2; cases this
  | arr h1 h2 _ _ _ => have := (dAt_eq h h1).symm.trans h2; cases this

/-- an argument that is a struct -/
theorem arg_agg {α : Type} {R : VR α} {DH : Type} {H : AHeap} {t : TypeId} {v : Value} {d : DataW DH} {sz : Nat} (h : ReadsArg tt H t v d) (hd : Dec tt t sz R) (ha : (dAt tt t).map TD.agg = some true) : ∃ cs x, v = .agg cs.toArray ∧ cs.length = sz ∧ R H cs x := by
  obtain ⟨e, he, h⟩ := h
  have : e.d.agg = true := by simpa [dAt, he] using ha
  rw [this] at h
  obtain ⟨acs, rfl, h⟩ := h
  obtain ⟨x, cs, vs', ds', h1, h2, h3, h4⟩ := hd DH H _ _ _ h
  cases h4
  rw [List.append_nil] at h1
  subst h1
  exact ⟨acs, x, rfl, h2, h3⟩
end
end Go.Abs
