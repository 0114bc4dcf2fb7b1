/- Primitive operations on the abstract heap, in continuation form. -/
import Derived.Test.YtbmbabgkpcnppaaAbsTy
set_option linter.all false
namespace Go.Abs
open Go

@[irreducible] def reqK (b : Bool) (p : Prop) : Prop := match b with | true => p | false => False
@[irreducible] def condK (b : Bool) (p q : Prop) : Prop := match b with | true => p | false => q
@[irreducible] def intK (k : IntKind) (e : Int) (K : Int → Prop) : Prop := K (k.wrap e)
@[irreducible] def pickK (c : Bool) (a b : Value) (K : Value → Prop) : Prop := K (bif c then a else b)
@[irreducible] def loadK (H : AHeap) (i off : Nat) (K : Value → Prop) : Prop :=
  match H.get i with
  | some (.cells c _ _) => (match c[off]? with | some v => K v | none => False)
  | _ => False
/-- n cells from off on -/
@[irreducible] def loadsK (H : AHeap) (i off n : Nat) (K : List Value → Prop) : Prop :=
  match H.get i with
  | some (.cells c _ _) => (match Nat.ble (off + n) c.length with | true => K ((c.drop off).take n) | false => False)
  | _ => False
abbrev setRange (c : List Value) (off : Nat) (vs : List Value) : List Value := c.take off ++ vs ++ c.drop (off + vs.length)
@[irreducible] def storeK (H : AHeap) (i off : Nat) (v : Value) (K : AHeap → Prop) : Prop :=
  match H.get i with
  | some (.cells c true sz) => (match Nat.blt off c.length with | true => K (H.set i (.cells (c.set off v) true sz)) | false => False)
  | _ => False
@[irreducible] def storesK (H : AHeap) (i off : Nat) (vs : List Value) (K : AHeap → Prop) : Prop :=
  match H.get i with
  | some (.cells c true sz) => (match Nat.ble (off + vs.length) c.length with | true => K (H.set i (.cells (setRange c off vs) true sz)) | false => False)
  | _ => False

/-- what an abstract block is -/
@[irreducible] def heapK (H : AHeap) (i : Nat) (k : AObj → Prop) : Prop := match H.get i with | some o => k o | none => False
theorem heapK_of {H : AHeap} {i : Nat} {k : AObj → Prop} {o : AObj} (h : H.get i = some o) (hk : k o) : heapK H i k := by unfold heapK; rw [h]; exact hk
theorem heapK_elim {H : AHeap} {i : Nat} {k : AObj → Prop} (h : heapK H i k) : ∃ o, H.get i = some o ∧ k o := by
  unfold heapK at h
  split at h
  · rename_i o ho; exact ⟨o, ho, h⟩
  · exact h.elim
theorem heapK_mono {H : AHeap} {i : Nat} {k k' : AObj → Prop} (h : heapK H i k) (hk : ∀ o, k o → k' o) : heapK H i k' := by
  obtain ⟨o, h1, h2⟩ := heapK_elim h
  exact heapK_of h1 (hk o h2)
theorem reqK_of {b : Bool} {p : Prop} (h : b = true) (hp : p) : reqK b p := by unfold reqK; subst h; exact hp
theorem reqK_elim {b : Bool} {p : Prop} (h : reqK b p) : b = true ∧ p := by unfold reqK at h; cases b <;> simp_all
theorem condK_of {b : Bool} {p q : Prop} (hp : b = true → p) (hq : b = false → q) : condK b p q := by unfold condK; cases b <;> simp_all
theorem condK_true {b : Bool} {p q : Prop} (h : b = true) (hp : p) : condK b p q := by unfold condK; subst h; exact hp
theorem condK_false {b : Bool} {p q : Prop} (h : b = false) (hp : q) : condK b p q := by unfold condK; subst h; exact hp
theorem condK_elim {b : Bool} {p q : Prop} (h : condK b p q) : (b = true ∧ p) ∨ (b = false ∧ q) := by unfold condK at h; cases b <;> simp_all
theorem intK_elim {k : IntKind} {e : Int} {K : Int → Prop} (h : intK k e K) : K (k.wrap e) := by unfold intK at h; exact h
theorem intK_of {k : IntKind} {e : Int} {K : Int → Prop} (h : K (k.wrap e)) : intK k e K := by unfold intK; exact h
theorem pickK_elim {c : Bool} {a b : Value} {K : Value → Prop} (h : pickK c a b K) : K (bif c then a else b) := by unfold pickK at h; exact h
theorem pickK_of {c : Bool} {a b : Value} {K : Value → Prop} (h : K (bif c then a else b)) : pickK c a b K := by unfold pickK; exact h
theorem pickK_true {c : Bool} {a b : Value} {K : Value → Prop} (hc : c = true) (h : K a) : pickK c a b K := pickK_of (by subst hc; exact h)
theorem pickK_false {c : Bool} {a b : Value} {K : Value → Prop} (hc : c = false) (h : K b) : pickK c a b K := pickK_of (by subst hc; exact h)
def AHeap.cell (H : AHeap) (i off : Nat) : Option Value := match H.get i with | some (.cells c _ _) => c[off]? | _ => none
theorem loadK_of {H : AHeap} {i off : Nat} {K : Value → Prop} {v : Value} (h : H.cell i off = some v) (hk : K v) : loadK H i off K := by
  unfold AHeap.cell at h; unfold loadK
  split at h
  · simp only [h]; exact hk
  · exact absurd h (by simp)
theorem loadK_elim {H : AHeap} {i off : Nat} {K : Value → Prop} (h : loadK H i off K) : ∃ c own sz v, H.get i = some (.cells c own sz) ∧ c[off]? = some v ∧ K v := by
  unfold loadK at h
  split at h
  · rename_i c own sz hc
    split at h
    · rename_i v hv; exact ⟨c, own, sz, v, hc, hv, h⟩
    · exact h.elim
  · exact h.elim
theorem loadsK_of {H : AHeap} {i off n : Nat} {K : List Value → Prop} {c : List Value} {own : Bool} {sz : Nat} (h : H.get i = some (.cells c own sz)) (hl : off + n ≤ c.length) (hk : K ((c.drop off).take n)) :
    loadsK H i off n K := by
  unfold loadsK; simp only [h, Nat.ble_eq_true_of_le hl]; exact hk
theorem loadsK_elim {H : AHeap} {i off n : Nat} {K : List Value → Prop} (h : loadsK H i off n K) :
    ∃ c own sz, H.get i = some (.cells c own sz) ∧ off + n ≤ c.length ∧ K ((c.drop off).take n) := by
  unfold loadsK at h
  split at h
  · rename_i c own sz hc
    split at h
    · rename_i hb; exact ⟨c, own, sz, hc, Nat.le_of_ble_eq_true hb, h⟩
    · exact h.elim
  · exact h.elim
theorem storeK_of {H : AHeap} {i off : Nat} {v : Value} {K : AHeap → Prop} {c : List Value} {sz : Nat} (h : H.get i = some (.cells c true sz)) (hl : off < c.length) (hk : K (H.set i (.cells (c.set off v) true sz))) :
    storeK H i off v K := by
  unfold storeK; simp only [h]
  have : Nat.blt off c.length = true := by simpa [Nat.blt_eq] using hl
  simp only [this]; exact hk
theorem storeK_elim {H : AHeap} {i off : Nat} {v : Value} {K : AHeap → Prop} (h : storeK H i off v K) :
    ∃ c sz, H.get i = some (.cells c true sz) ∧ off < c.length ∧ K (H.set i (.cells (c.set off v) true sz)) := by
  unfold storeK at h
  split at h
  · rename_i c sz hc
    split at h
    · rename_i hb; exact ⟨c, sz, hc, by simpa [Nat.blt_eq] using hb, h⟩
    · exact h.elim
  · exact h.elim
theorem storesK_of {H : AHeap} {i off : Nat} {vs : List Value} {K : AHeap → Prop} {c : List Value} {sz : Nat} (h : H.get i = some (.cells c true sz)) (hl : off + vs.length ≤ c.length)
    (hk : K (H.set i (.cells (setRange c off vs) true sz))) : storesK H i off vs K := by
  unfold storesK; simp only [h, Nat.ble_eq_true_of_le hl]; exact hk
theorem storesK_elim {H : AHeap} {i off : Nat} {vs : List Value} {K : AHeap → Prop} (h : storesK H i off vs K) :
    ∃ c sz, H.get i = some (.cells c true sz) ∧ off + vs.length ≤ c.length ∧ K (H.set i (.cells (setRange c off vs) true sz)) := by
  unfold storesK at h
  split at h
  · rename_i c sz hc
    split at h
    · rename_i hb; exact ⟨c, sz, hc, Nat.le_of_ble_eq_true hb, h⟩
    · exact h.elim
  · exact h.elim

/-! a constant that stands high: what names it is unfolded before what does not -/
def tall0 : Unit := ()
def tall1 : Unit := tall0
def tall2 : Unit := tall1
def tall3 : Unit := tall2
def tall4 : Unit := tall3
def tall5 : Unit := tall4
def tall6 : Unit := tall5
def tall7 : Unit := tall6
def tall8 : Unit := tall7
def tall9 : Unit := tall8
def tall10 : Unit := tall9
def tall11 : Unit := tall10
def tall12 : Unit := tall11
def tall13 : Unit := tall12
def tall14 : Unit := tall13
def tall15 : Unit := tall14
def tall16 : Unit := tall15
def tall17 : Unit := tall16
def tall18 : Unit := tall17
def tall19 : Unit := tall18
def tall20 : Unit := tall19
/-! reading and writing slots -/
abbrev getK : List Value → Nat → (Value → Prop) → Prop
  | [], _, k => k undef
  | x :: _, 0, k => k x
  | _ :: xs, i + 1, k => getK xs i k
abbrev setK : List Value → Nat → Value → (List Value → Prop) → Prop
  | [], _, _, k => k []
  | _ :: xs, 0, v, k => k (v :: xs)
  | x :: xs, i + 1, v, k => setK xs i v fun ys => k (x :: ys)
def evalK (t : List Value) : Operand → (Value → Prop) → Prop
  | .tmp i, k => (fun _ => getK t i k) tall20
  | .const v, k => match simpleV v with | true => k v | false => False
  | .func f, k => k (.func (.func f) #[] #[])
  | .global _, _ => False
def evalsK (t : List Value) : List Operand → (List Value → Prop) → Prop
  | [], k => k []
  | x :: xs, k => evalK t x fun v => evalsK t xs fun vs => k (v :: vs)
def evalPK (t : List Value) : List (Nat × Operand) → (List (Nat × Value) → Prop) → Prop
  | [], k => k []
  | (i, x) :: xs, k => evalK t x fun v => evalPK t xs fun vs => k ((i, v) :: vs)
abbrev tyK : Tab → Nat → (TE → Prop) → Prop
  | [], _, _ => False
  | e :: _, 0, k => k e
  | _ :: es, t + 1, k => tyK es t k

theorem getK_eq : ∀ (l : List Value) (i : Nat) (k : Value → Prop), getK l i k = k (l.getD i undef)
  | [], i, k => by simp [getK]
  | x :: xs, 0, k => by simp [getK]
  | x :: xs, i + 1, k => by simp [getK, getK_eq xs i k]
theorem setK_eq : ∀ (l : List Value) (i : Nat) (v : Value) (k : List Value → Prop), setK l i v k = k (l.set i v)
  | [], i, v, k => by simp [setK]
  | x :: xs, 0, v, k => by simp [setK]
  | x :: xs, i + 1, v, k => by simp [setK, setK_eq xs i v]
theorem tyK_elim : ∀ {tt : Tab} {t : Nat} {k : TE → Prop}, tyK tt t k → ∃ e, tt[t]? = some e ∧ k e
  | e :: _, 0, k, h => ⟨e, rfl, h⟩
  | _ :: es, t + 1, k, h => by obtain ⟨e, h1, h2⟩ := tyK_elim (tt := es) h; exact ⟨e, by simpa using h1, h2⟩

def evalC (t' : Array Value) : Operand → Value := Act.eval ⟨t', []⟩

theorem evalK_elim {E : Env} {t : List Value} {t' : Array Value} (hr : LRel E t t') {x : Operand} {k : Value → Prop} (h : evalK t x k) : ∃ v, k v ∧ VRel E v (evalC t' x) := by
  cases x with
  | tmp i => simp only [evalK, getK_eq] at h; exact ⟨_, h, hr.getD i⟩
  | const v =>
    simp only [evalK] at h
    split at h
    · rename_i hs; exact ⟨v, h, simpleV_rel hs E⟩
    · exact h.elim
  | func f => simp only [evalK] at h; exact ⟨_, h, .func (.func f) #[] #[] #[] #[] trivial rfl rfl (fun i hi => absurd hi (by simp)) (fun i hi => absurd hi (by simp))⟩
  | global g => exact h.elim

end Go.Abs
