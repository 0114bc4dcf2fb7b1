/- From arguments that read as data to what they stand for. -/
import Derived.Test.YtpcnnioicfljfaaAbsRep
set_option linter.all false
namespace Go.Abs
open Go

/-- an element of type el is read as R says, in sz cells -/
def Dec {α : Type} (tt : Tab) (el : TypeId) (sz : Nat) (R : VR α) : Prop :=
  ∀ (DH : Type) (H : AHeap) (ts : List TypeId) (vs : List Value) (ds : List (DataW DH)), Reads tt H (el :: ts) vs ds →
    ∃ (x : α) (cs vs' : List Value) (ds' : List (DataW DH)), vs = cs ++ vs' ∧ cs.length = sz ∧ R H cs x ∧ Reads tt H ts vs' ds'
/-- fields one behind the other -/
def DecL {α : Type} (tt : Tab) (ts : List TypeId) (sz : Nat) (R : VR α) : Prop :=
  ∀ (DH : Type) (H : AHeap) (us : List TypeId) (vs : List Value) (ds : List (DataW DH)), Reads tt H (ts ++ us) vs ds →
    ∃ (x : α) (cs vs' : List Value) (ds' : List (DataW DH)), vs = cs ++ vs' ∧ cs.length = sz ∧ R H cs x ∧ Reads tt H us vs' ds'
def RNil : VR Unit := fun _ cs _ => cs = []
def RPair {α β : Type} (R : VR α) (S : VR β) : VR (α × β) := fun H cs x => ∃ c1 c2, cs = c1 ++ c2 ∧ R H c1 x.1 ∧ S H c2 x.2

section
variable {tt : Tab}
abbrev dAt (tt : Tab) (t : TypeId) : Option TD := tt[t]?.map (·.d)
abbrev szAt (tt : Tab) (t : TypeId) : Option Nat := tt[t]?.map (·.size)
theorem dAt_eq {t : TypeId} {d : TD} (h : dAt tt t = some d) {e : TE} (he : tt[t]? = some e) : e.d = d := by
  simp only [dAt, he, Option.map_some, Option.some.injEq] at h; exact h
/-- an argument of one cell -/
theorem arg_one {α : Type} {R : VR α} {DH : Type} {H : AHeap} {t : TypeId} {v : Value} {d : DataW DH} (h : ReadsArg tt H t v d) (hd : Dec tt t 1 R) (ha : (dAt tt t).map TD.agg = some false) : ∃ x, R H [v] x := by
  obtain ⟨e, he, h⟩ := h
  have : e.d.agg = false := by simpa [dAt, he] using ha
  rw [this] at h
  obtain ⟨x, cs, vs', ds', h1, h2, h3, h4⟩ := hd DH H _ _ _ h
  cases h4
  rw [List.append_nil] at h1
  exact ⟨x, h1 ▸ h3⟩
end
end Go.Abs
