/- Abstract heaps: values and memory up to a renaming of blocks; the relation to the machine's world. -/
import Derived.Control
import Derived.Calls
import Derived.Defers
import Derived.Recover
import Derived.KernelRfl
import Derived.Laws.Sem
set_option linter.all false
namespace Go.Abs
open Go

inductive AObj where
  | cells (c : List Value) (own : Bool) (sz : Nat)
  | map (es : List MapEntry) (clock : Nat) (own : Bool)
  | strIter (s : ByteArray) (pos : Nat)
  | mapIter (m : Option Nat) (since : Nat) (seen : List Nat) (stepped : Nat)
  | loop (l : Loop)
  | deferred (ds : List Deferred)

def AObj.own : AObj → Bool
  | .cells _ o _ => o
  | .map _ _ o => o
  | _ => true

structure AHeap where
  size : Nat
  get : Nat → Option AObj

namespace AHeap
def empty : AHeap := ⟨0, fun _ => none⟩
def push (H : AHeap) (o : AObj) : AHeap := ⟨H.size + 1, fun i => bif Nat.beq i H.size then some o else H.get i⟩
def set (H : AHeap) (i : Nat) (o : AObj) : AHeap := ⟨H.size, fun j => bif Nat.beq j i then some o else H.get j⟩
def kill (H : AHeap) (i : Nat) : AHeap := ⟨H.size, fun j => bif Nat.beq j i then none else H.get j⟩
theorem nbeq_self (i : Nat) : Nat.beq i i = true := by simp
theorem nbeq_ne {i j : Nat} (h : i ≠ j) : Nat.beq i j = false := by
  cases hb : Nat.beq i j with
  | false => rfl
  | true => exact absurd (Nat.eq_of_beq_eq_true hb) h
@[simp] theorem push_size (H : AHeap) (o : AObj) : (H.push o).size = H.size + 1 := rfl
@[simp] theorem set_size (H : AHeap) (i : Nat) (o : AObj) : (H.set i o).size = H.size := rfl
@[simp] theorem kill_size (H : AHeap) (i : Nat) : (H.kill i).size = H.size := rfl
theorem push_new (H : AHeap) (o : AObj) : (H.push o).get H.size = some o := by simp [push]
theorem push_ne (H : AHeap) (o : AObj) {i : Nat} (h : i ≠ H.size) : (H.push o).get i = H.get i := by simp [push, nbeq_ne h]
theorem push_lt (H : AHeap) (o : AObj) {i : Nat} (h : i < H.size) : (H.push o).get i = H.get i := push_ne H o (Nat.ne_of_lt h)
theorem set_same (H : AHeap) (i : Nat) (o : AObj) : (H.set i o).get i = some o := by simp [set]
theorem set_ne (H : AHeap) {i j : Nat} (o : AObj) (h : j ≠ i) : (H.set i o).get j = H.get j := by simp [set, nbeq_ne h]
theorem kill_same (H : AHeap) (i : Nat) : (H.kill i).get i = none := by simp [kill]
theorem kill_ne (H : AHeap) {i j : Nat} (h : j ≠ i) : (H.kill i).get j = H.get j := by simp [kill, nbeq_ne h]
/-- what is there stays -/
structure le (H K : AHeap) : Prop where
  size : H.size ≤ K.size
  get : ∀ i, i < H.size → K.get i = H.get i
theorem le.refl (H : AHeap) : H.le H := ⟨Nat.le_refl _, fun _ _ => rfl⟩
theorem le.trans {H K L : AHeap} (a : H.le K) (b : K.le L) : H.le L :=
  ⟨Nat.le_trans a.size b.size, fun i h => (b.get i (Nat.lt_of_lt_of_le h a.size)).trans (a.get i h)⟩
theorem le_push (H : AHeap) (o : AObj) : H.le (H.push o) := ⟨Nat.le_succ _, fun _ h => push_lt H o h⟩
theorem le.push {H K : AHeap} (h : H.le K) (o : AObj) : H.le (K.push o) := h.trans (le_push K o)
theorem le.set {H K : AHeap} (h : H.le K) {i : Nat} (hi : H.size ≤ i) (o : AObj) : H.le (K.set i o) :=
  ⟨h.size, fun j hj => (set_ne K o (by omega)).trans (h.get j hj)⟩
theorem le.kill {H K : AHeap} (h : H.le K) {i : Nat} (hi : H.size ≤ i) : H.le (K.kill i) :=
  ⟨h.size, fun j hj => (kill_ne K (by omega)).trans (h.get j hj)⟩
end AHeap

/-- which block, and from which cell on, an abstract block is -/
structure Env where
  n : Nat
  b : Nat → Nat
  d : Nat → Nat
  /-- so many elements more than is said has the machine's block -/
  s : Nat → Nat

def Env.push (E : Env) (r δ σ : Nat) : Env :=
  ⟨E.n + 1, fun i => if i = E.n then r else E.b i, fun i => if i = E.n then δ else E.d i, fun i => if i = E.n then σ else E.s i⟩

structure Ext (E E' : Env) : Prop where
  n : E.n ≤ E'.n
  b : ∀ i, i < E.n → E'.b i = E.b i
  d : ∀ i, i < E.n → E'.d i = E.d i
  s : ∀ i, i < E.n → E'.s i = E.s i

theorem Ext.refl (E : Env) : Ext E E := ⟨Nat.le_refl _, fun _ _ => rfl, fun _ _ => rfl, fun _ _ => rfl⟩
theorem Ext.trans {A B C : Env} (h : Ext A B) (g : Ext B C) : Ext A C :=
  ⟨Nat.le_trans h.n g.n, fun i hi => (g.b i (Nat.lt_of_lt_of_le hi h.n)).trans (h.b i hi), fun i hi => (g.d i (Nat.lt_of_lt_of_le hi h.n)).trans (h.d i hi),
    fun i hi => (g.s i (Nat.lt_of_lt_of_le hi h.n)).trans (h.s i hi)⟩
theorem Ext.push (E : Env) (r δ σ : Nat) : Ext E (E.push r δ σ) :=
  ⟨Nat.le_succ _, fun i hi => by simp [Env.push, Nat.ne_of_lt hi], fun i hi => by simp [Env.push, Nat.ne_of_lt hi], fun i hi => by simp [Env.push, Nat.ne_of_lt hi]⟩

def fnMap (E : Env) : Fn → Fn
  | .yield l => .yield (E.b l)
  | f => f
def FnOk (E : Env) : Fn → Prop
  | .yield l => l < E.n
  | _ => True

inductive VRel (E : Env) : Value → Value → Prop where
  | any (v : Value) : VRel E (.tuple #[]) v
  | bool (b : Bool) : VRel E (.bool b) (.bool b)
  | int (k : IntKind) (i : Int) : VRel E (.int k i) (.int k i)
  | float (k : FloatKind) (x : Nat) : VRel E (.float k x) (.float k x)
  | skipped : VRel E (.complex .f32 0 1) (.tuple #[])
  | string (s : ByteArray) : VRel E (.string s) (.string s)
  | ptrNil : VRel E (.pointer none) (.pointer none)
  | ptr (a off : Nat) (h : a < E.n) : VRel E (.pointer (some ⟨a, off, none⟩)) (.pointer (some ⟨E.b a, E.d a + off, none⟩))
  | sliceNil : VRel E (.slice none 0 0) (.slice none 0 0)
  | slice (a off len cap : Nat) (h : a < E.n) : VRel E (.slice (some ⟨a, off, none⟩) len cap) (.slice (some ⟨E.b a, E.d a + off, none⟩) len (cap + E.s a))
  | slice0 (a off : Nat) (x : Addr) (h : a < E.n) (hs : E.s a = 0) : VRel E (.slice (some ⟨a, off, none⟩) 0 0) (.slice (some x) 0 0)
  | mapNil : VRel E (.map none) (.map none)
  | chanNil : VRel E (.chan none) (.chan none)
  | map (r : Nat) (h : r < E.n) : VRel E (.map (some r)) (.map (some (E.b r)))
  | func (fn : Fn) (fs fs' cs cs' : Array Value) (hf : FnOk E fn) (h1 : fs.size = fs'.size) (h2 : cs.size = cs'.size)
      (h3 : ∀ i, i < fs.size → VRel E (fs.getD i undef) (fs'.getD i undef)) (h4 : ∀ i, i < cs.size → VRel E (cs.getD i undef) (cs'.getD i undef)) :
      VRel E (.func fn fs cs) (.func (fnMap E fn) fs' cs')
  | nilFunc : VRel E .nilFunc .nilFunc
  | iface (t : TypeId) (v v' : Value) (h : VRel E v v') : VRel E (.iface t v) (.iface t v')
  | nilIface : VRel E .nilIface .nilIface
  | agg (fs fs' : Array Value) (h1 : fs.size = fs'.size) (h3 : ∀ i, i < fs.size → VRel E (fs.getD i undef) (fs'.getD i undef)) : VRel E (.agg fs) (.agg fs')
  | tuple (fs fs' : Array Value) (h1 : fs.size = fs'.size) (h3 : ∀ i, i < fs.size → VRel E (fs.getD i undef) (fs'.getD i undef)) : VRel E (.tuple fs) (.tuple fs')

theorem fnMap_ext {E E' : Env} (h : Ext E E') {fn : Fn} (hf : FnOk E fn) : fnMap E fn = fnMap E' fn ∧ FnOk E' fn := by
  cases fn <;> simp only [fnMap, FnOk, and_true] at *
  case yield l => exact ⟨by rw [h.b l hf], Nat.lt_of_lt_of_le hf h.n⟩

theorem VRel.mono {E E' : Env} (hE : Ext E E') {v v' : Value} (h : VRel E v v') : VRel E' v v' := by
  induction h with
  | any v => exact .any v
  | bool b => exact .bool b
  | int k i => exact .int k i
  | float k x => exact .float k x
  | skipped => exact .skipped
  | string s => exact .string s
  | ptrNil => exact .ptrNil
  | ptr a off h => rw [← hE.b a h, ← hE.d a h]; exact .ptr a off (Nat.lt_of_lt_of_le h hE.n)
  | sliceNil => exact .sliceNil
  | slice a off len cap h => rw [← hE.b a h, ← hE.d a h, ← hE.s a h]; exact .slice a off len cap (Nat.lt_of_lt_of_le h hE.n)
  | slice0 a off x h hs => exact .slice0 a off x (Nat.lt_of_lt_of_le h hE.n) ((hE.s a h).trans hs)
  | mapNil => exact .mapNil
  | chanNil => exact .chanNil
  | map r h => rw [← hE.b r h]; exact .map r (Nat.lt_of_lt_of_le h hE.n)
  | func fn fs fs' cs cs' hf h1 h2 _ _ ih3 ih4 => rw [(fnMap_ext hE hf).1]; exact .func fn fs fs' cs cs' (fnMap_ext hE hf).2 h1 h2 ih3 ih4
  | nilFunc => exact .nilFunc
  | iface t v v' _ ih => exact .iface t v v' ih
  | nilIface => exact .nilIface
  | agg fs fs' h1 _ ih => exact .agg fs fs' h1 ih
  | tuple fs fs' h1 _ ih => exact .tuple fs fs' h1 ih

/-- arrays of values, place by place -/
structure ARel (E : Env) (a a' : Array Value) : Prop where
  size : a.size = a'.size
  get : ∀ i, i < a.size → VRel E (a.getD i undef) (a'.getD i undef)
/-- a list and an array -/
structure LRel (E : Env) (l : List Value) (a : Array Value) : Prop where
  size : l.length = a.size
  get : ∀ i, i < l.length → VRel E (l.getD i undef) (a.getD i undef)

theorem ARel.mono {E E' : Env} (hE : Ext E E') {a a' : Array Value} (h : ARel E a a') : ARel E' a a' := ⟨h.size, fun i hi => (h.get i hi).mono hE⟩
theorem LRel.mono {E E' : Env} (hE : Ext E E') {l : List Value} {a : Array Value} (h : LRel E l a) : LRel E' l a := ⟨h.size, fun i hi => (h.get i hi).mono hE⟩

theorem ARel.nil (E : Env) : ARel E #[] #[] := ⟨rfl, fun i h => absurd h (by simp)⟩
theorem LRel.getD {E : Env} {l : List Value} {a : Array Value} (h : LRel E l a) (i : Nat) : VRel E (l.getD i undef) (a.getD i undef) := by
  by_cases hi : i < l.length
  · exact h.get i hi
  · have h1 : l.getD i undef = undef := by simp [List.getD, List.getElem?_eq_none (Nat.le_of_not_lt hi)]
    rw [h1]; exact .any _
theorem LRel.getElem? {E : Env} {l : List Value} {a : Array Value} (h : LRel E l a) {i : Nat} {v : Value} (hv : l[i]? = some v) : ∃ v', a[i]? = some v' ∧ VRel E v v' := by
  have hi : i < l.length := (List.getElem?_eq_some_iff.1 hv).1
  have := h.get i hi
  have ha : i < a.size := h.size ▸ hi
  refine ⟨a[i], by simp [ha], ?_⟩
  simpa [List.getD, hv, Array.getD, ha] using this
theorem ARel.getElem? {E : Env} {l a : Array Value} (h : ARel E l a) {i : Nat} {v : Value} (hv : l[i]? = some v) : ∃ v', a[i]? = some v' ∧ VRel E v v' := by
  have hi : i < l.size := (Array.getElem?_eq_some_iff.1 hv).1
  have := h.get i hi
  have ha : i < a.size := h.size ▸ hi
  refine ⟨a[i], by simp [ha], ?_⟩
  have hl : l[i] = v := (Array.getElem?_eq_some_iff.1 hv).2
  simpa [Array.getD, hi, ha, hl] using this
theorem ARel.toList {E : Env} {l a : Array Value} (h : ARel E l a) : LRel E l.toList a :=
  ⟨by simpa using h.size, fun i hi => by simpa [List.getD, Array.getD_eq_getD_getElem?] using h.get i (by simpa using hi)⟩
theorem LRel.toArray {E : Env} {l : List Value} {a : Array Value} (h : LRel E l a) : ARel E l.toArray a :=
  ⟨by simpa using h.size, fun i hi => by simpa [List.getD, Array.getD_eq_getD_getElem?] using h.get i (by simpa using hi)⟩
theorem LRel.of_get {E : Env} {l : List Value} {a : Array Value} (hs : l.length = a.size) (h : ∀ (i : Nat) (v : Value), l[i]? = some v → ∃ v', a[i]? = some v' ∧ VRel E v v') : LRel E l a := by
  refine ⟨hs, fun i hi => ?_⟩
  obtain ⟨v', h1, h2⟩ := h i l[i] (by simp [hi])
  simpa [List.getD, hi, Array.getD_eq_getD_getElem?, h1] using h2
theorem LRel.append {E : Env} {l m : List Value} {a c : Array Value} (h : LRel E l a) (g : LRel E m c) : LRel E (l ++ m) (a ++ c) := by
  refine LRel.of_get (by simp [h.size, g.size]) fun i v hv => ?_
  rw [List.getElem?_append] at hv
  rw [Array.getElem?_append]
  rw [h.size] at hv
  split at hv
  · rename_i hlt; rw [if_pos hlt]; exact h.getElem? hv
  · rename_i hlt; rw [if_neg hlt]; exact g.getElem? hv
theorem LRel.set {E : Env} {l : List Value} {a : Array Value} (h : LRel E l a) (i : Nat) {v v' : Value} (hv : VRel E v v') : LRel E (l.set i v) (a.setIfInBounds i v') := by
  refine LRel.of_get (by simp [h.size]) fun j u hu => ?_
  rw [List.getElem?_set] at hu
  rw [Array.getElem?_setIfInBounds]
  split at hu
  · rename_i hij
    subst hij
    rw [if_pos rfl]
    split at hu
    · rename_i hlt
      rw [if_pos (h.size ▸ hlt)]
      cases hu
      exact ⟨v', rfl, hv⟩
    · exact absurd hu (by simp)
  · rename_i hij
    rw [if_neg hij]
    exact h.getElem? hu
theorem LRel.nil (E : Env) : LRel E [] #[] := ⟨rfl, fun i h => absurd h (by simp)⟩
theorem LRel.cons {E : Env} {v v' : Value} {l m : List Value} (hv : VRel E v v') (h : LRel E l m.toArray) : LRel E (v :: l) (v' :: m).toArray := by
  refine LRel.of_get (by simpa using h.size) fun j u hu => ?_
  cases j with
  | zero => simp at hu; subst hu; exact ⟨v', by simp, hv⟩
  | succ j => simp at hu; obtain ⟨u', h1, h2⟩ := h.getElem? hu; exact ⟨u', by simpa using h1, h2⟩
theorem LRel.replicate {E : Env} (n : Nat) {v v' : Value} (hv : VRel E v v') : LRel E (List.replicate n v) (Array.replicate n v') := by
  refine LRel.of_get (by simp) fun j u hu => ?_
  rw [List.getElem?_replicate] at hu
  rw [Array.getElem?_replicate]
  split at hu
  · rename_i h; rw [if_pos h]; cases hu; exact ⟨v', rfl, hv⟩
  · exact absurd hu (by simp)
theorem LRel.map {E : Env} {α : Type} (xs : Array α) (f g : α → Value) (h : ∀ x ∈ xs, VRel E (f x) (g x)) : LRel E (xs.toList.map f) (xs.map g) := by
  refine LRel.of_get (by simp) fun j u hu => ?_
  rw [List.getElem?_map] at hu
  cases hx : xs.toList[j]? with
  | none => rw [hx] at hu; exact absurd hu (by simp)
  | some x =>
    rw [hx] at hu; cases hu
    have hx' : xs[j]? = some x := by simpa using hx
    exact ⟨g x, by simp [hx'], h x (Array.mem_of_getElem? hx')⟩

structure LoopRel (E : Env) (l l' : Loop) : Prop where
  state : l'.state = l.state
  pending : l'.pending = l.pending
  fn : l'.fn = l.fn
  tmps : ARel E l.tmps l'.tmps
  params : l'.params = l.params
  assign : l'.assign = l.assign
  body : l'.body = l.body
  defers : l'.defers = E.b l.defers
  dlt : l.defers < E.n

def TgtRel (E : Env) : Target → Target → Prop
  | .fn f c, .fn f' c' => FnOk E f ∧ f' = fnMap E f ∧ ARel E c c'
  | .collected r, .collected r' => r < E.n ∧ r' = E.b r
  | .nil, .nil => True
  | _, _ => False
def DefRel (E : Env) (d d' : Deferred) : Prop := TgtRel E d.target d'.target ∧ ARel E d.args d'.args
def DsRel (E : Env) : List Deferred → List Deferred → Prop
  | [], [] => True
  | d :: ds, d' :: ds' => DefRel E d d' ∧ DsRel E ds ds'
  | _, _ => False

theorem LoopRel.mono {E E' : Env} (hE : Ext E E') {l l' : Loop} (h : LoopRel E l l') : LoopRel E' l l' :=
  ⟨h.state, h.pending, h.fn, h.tmps.mono hE, h.params, h.assign, h.body, h.defers.trans (hE.b _ h.dlt).symm, Nat.lt_of_lt_of_le h.dlt hE.n⟩
theorem DefRel.mono {E E' : Env} (hE : Ext E E') {d d' : Deferred} (h : DefRel E d d') : DefRel E' d d' := by
  obtain ⟨t, a⟩ := d
  obtain ⟨t', a'⟩ := d'
  obtain ⟨h1, h2⟩ := h
  refine ⟨?_, h2.mono hE⟩
  cases t <;> cases t' <;> simp only [TgtRel] at h1 ⊢
  · exact ⟨(fnMap_ext hE h1.1).2, h1.2.1.trans (fnMap_ext hE h1.1).1, h1.2.2.mono hE⟩
  · exact ⟨Nat.lt_of_lt_of_le h1.1 hE.n, h1.2.trans (hE.b _ h1.1).symm⟩
theorem DsRel.mono {E E' : Env} (hE : Ext E E') : ∀ {ds ds' : List Deferred}, DsRel E ds ds' → DsRel E' ds ds'
  | [], [], _ => trivial
  | _ :: _, _ :: _, h => ⟨h.1.mono hE, DsRel.mono hE h.2⟩
  | [], _ :: _, h => h.elim
  | _ :: _, [], h => h.elim

structure EntRel (E : Env) (e e' : MapEntry) : Prop where
  born : e'.born = e.born
  key : VRel E e.key e'.key
  val : VRel E e.val e'.val

/-- abstract block number i holds o -/
def ORel (E : Env) (w : World) (i : Nat) : AObj → Prop
  | .cells c own sz => (c = [] ∧ own = false) ∨ ∃ c' el fr, w.heap[E.b i]? = some (.cells c' el fr) ∧ (∀ (k : Nat) v, c[k]? = some v → ∃ v', c'[E.d i + k]? = some v' ∧ VRel E v v' ∧ v'.oneCell' = true) ∧
      (own = true → E.d i + c.length + E.s i * sz ≤ c'.size ∧ ∀ k, k < c.length + E.s i * sz → ¬(fr.1 ≤ E.d i + k ∧ E.d i + k < fr.2))
  | .map es clock _ => ∃ es', w.heap[E.b i]? = some (.map es' clock) ∧ es.length = es'.size ∧ ∀ (k : Nat) e, es[k]? = some e → ∃ e', es'[k]? = some e' ∧ EntRel E e e'
  | .strIter s pos => w.heap[E.b i]? = some (.stringIter s pos)
  | .mapIter m since seen stepped => w.heap[E.b i]? = some (.mapIter (m.map E.b) since seen.toArray stepped) ∧ ∀ x, m = some x → x < E.n
  | .loop l => ∃ l', w.heap[E.b i]? = some (.loop l') ∧ LoopRel E l l'
  | .deferred ds => ∃ ds', w.heap[E.b i]? = some (.deferred (some ds')) ∧ DsRel E ds ds'

theorem ORel.mono {E E' : Env} (hE : Ext E E') {w w' : World} {i : Nat} (hi : i < E.n) (hw : w'.heap[E.b i]? = w.heap[E.b i]?) {o : AObj} (h : ORel E w i o) : ORel E' w' i o := by
  have hb : E'.b i = E.b i := hE.b i hi
  have hd : E'.d i = E.d i := hE.d i hi
  have hs : E'.s i = E.s i := hE.s i hi
  cases o with
  | cells c own sz =>
    rcases h with h | ⟨c', el, fr, h1, h2, h3⟩
    · exact .inl h
    refine .inr ⟨c', el, fr, by rw [hb, hw, h1], fun k v hv => ?_, by rw [hd, hs]; exact h3⟩
    obtain ⟨v', a, b, o1⟩ := h2 k v hv
    exact ⟨v', by rw [hd]; exact a, b.mono hE, o1⟩
  | map es clock own =>
    obtain ⟨es', h1, h2, h3⟩ := h
    refine ⟨es', by rw [hb, hw, h1], h2, fun k e he => ?_⟩
    obtain ⟨e', a, b⟩ := h3 k e he
    exact ⟨e', a, ⟨b.born, b.key.mono hE, b.val.mono hE⟩⟩
  | strIter s pos => show _ = _; rw [hb, hw]; exact h
  | mapIter m since seen stepped =>
    obtain ⟨h1, h2⟩ := h
    refine ⟨?_, fun x hx => Nat.lt_of_lt_of_le (h2 x hx) hE.n⟩
    rw [hb, hw, h1]
    cases m with
    | none => rfl
    | some x => simp [hE.b x (h2 x rfl)]
  | loop l => obtain ⟨l', h1, h2⟩ := h; exact ⟨l', by rw [hb, hw, h1], h2.mono hE⟩
  | deferred ds => obtain ⟨ds', h1, h2⟩ := h; exact ⟨ds', by rw [hb, hw, h1], h2.mono hE⟩

structure Rel (w0 : World) (E : Env) (H : AHeap) (w : World) : Prop where
  n : E.n = H.size
  size : w0.heap.size ≤ w.heap.size
  old : ∀ b, b < w0.heap.size → w.heap[b]? = w0.heap[b]?
  tape : w.tape = w0.tape
  os : w.os = w0.os
  output : w.output = w0.output
  obj : ∀ i o, H.get i = some o → i < H.size ∧ E.b i < w.heap.size ∧ ORel E w i o
  own : ∀ i o, H.get i = some o → o.own = true → w0.heap.size ≤ E.b i ∧ ∀ j o', H.get j = some o' → j ≠ i → E.b j ≠ E.b i

/-- a world that differs from w outside of what is described -/
theorem Rel.world {w0 : World} {E : Env} {H : AHeap} {w w' : World} (h : Rel w0 E H w) (hs : w.heap.size ≤ w'.heap.size) (ht : w'.tape = w.tape) (ho : w'.os = w.os)
    (hout : w'.output = w.output) (hsame : ∀ b, b < w.heap.size → w'.heap[b]? = w.heap[b]?) : Rel w0 E H w' where
  n := h.n
  size := Nat.le_trans h.size hs
  old b hb := (hsame b (Nat.lt_of_lt_of_le hb h.size)).trans (h.old b hb)
  tape := ht.trans h.tape
  os := ho.trans h.os
  output := hout.trans h.output
  obj i o hi := let ⟨a, b, c⟩ := h.obj i o hi; ⟨a, Nat.lt_of_lt_of_le b hs, c.mono (Ext.refl E) (h.n ▸ a) (hsame _ b)⟩
  own := h.own

theorem Rel.drew {w0 : World} {E : Env} {H : AHeap} {w : World} (h : Rel w0 E H w) (n : Nat) : Rel w0 E H { w with drawn := n } :=
  h.world (Nat.le_refl _) rfl rfl rfl fun _ _ => rfl

/-- a block of its own is described as a new one -/
theorem Rel.pushAt {w0 : World} {E : Env} {H : AHeap} {w : World} (h : Rel w0 E H w) (r δ σ : Nat) (o : AObj) (hr : r < w.heap.size) (h0 : w0.heap.size ≤ r)
    (hne : ∀ j o', H.get j = some o' → E.b j ≠ r) (ho : ORel (E.push r δ σ) w H.size o) : Rel w0 (E.push r δ σ) (H.push o) w where
  n := by simp [Env.push, h.n]
  size := h.size
  old := h.old
  tape := h.tape
  os := h.os
  output := h.output
  obj i o' hi := by
    by_cases hie : i = H.size
    · subst hie
      rw [AHeap.push_new] at hi
      cases hi
      refine ⟨by simp, ?_, ho⟩
      show (if H.size = E.n then r else E.b H.size) < _
      rw [if_pos h.n.symm]; exact hr
    · rw [AHeap.push_ne H o hie] at hi
      obtain ⟨a, b, c⟩ := h.obj i o' hi
      have hlt : i < E.n := h.n ▸ a
      have hb : (E.push r δ σ).b i = E.b i := (Ext.push E r δ σ).b i hlt
      exact ⟨Nat.lt_succ_of_lt a, by rw [hb]; exact b, c.mono (Ext.push E r δ σ) hlt rfl⟩
  own i o' hi hown := by
    have hbnew : (E.push r δ σ).b H.size = r := by show (if H.size = E.n then r else E.b H.size) = r; rw [if_pos h.n.symm]
    by_cases hie : i = H.size
    · subst hie
      rw [AHeap.push_new] at hi
      cases hi
      rw [hbnew]
      refine ⟨h0, fun j o'' hj hne' => ?_⟩
      rw [AHeap.push_ne H o hne'] at hj
      rw [(Ext.push E r δ σ).b j (h.n ▸ (h.obj j o'' hj).1)]
      exact hne j o'' hj
    · rw [AHeap.push_ne H o hie] at hi
      have hb : (E.push r δ σ).b i = E.b i := (Ext.push E r δ σ).b i (h.n ▸ (h.obj i o' hi).1)
      rw [hb]
      obtain ⟨a, b⟩ := h.own i o' hi hown
      refine ⟨a, fun j o'' hj hne' => ?_⟩
      by_cases hje : j = H.size
      · subst hje; rw [hbnew]; exact fun e => hne i o' hi e.symm
      · rw [AHeap.push_ne H o hje] at hj
        rw [(Ext.push E r δ σ).b j (h.n ▸ (h.obj j o'' hj).1)]
        exact b j o'' hj hne'

/-- a new block -/
theorem Rel.alloc {w0 : World} {E : Env} {H : AHeap} {w : World} (h : Rel w0 E H w) (ob : Obj) (o : AObj) (σ : Nat)
    (ho : ∀ w' : World, w'.heap[w.heap.size]? = some ob → ORel (E.push w.heap.size 0 σ) w' H.size o) :
    Rel w0 (E.push w.heap.size 0 σ) (H.push o) { w with heap := w.heap.push ob } := by
  have h' : Rel w0 E H { w with heap := w.heap.push ob } :=
    h.world (by simp) rfl rfl rfl fun b hb => by simp [Array.getElem?_push, Nat.ne_of_lt hb]
  refine h'.pushAt w.heap.size 0 σ o (by simp) h.size (fun j o' hj => ?_) (ho _ (by simp))
  exact Nat.ne_of_lt (h.obj j o' hj).2.1

theorem Rel.kill {w0 : World} {E : Env} {H : AHeap} {w : World} (h : Rel w0 E H w) (x : Nat) : Rel w0 E (H.kill x) w where
  n := h.n
  size := h.size
  old := h.old
  tape := h.tape
  os := h.os
  output := h.output
  obj i o hi := by
    by_cases hx : i = x
    · subst hx; rw [AHeap.kill_same] at hi; cases hi
    · rw [AHeap.kill_ne H hx] at hi; exact h.obj i o hi
  own i o hi hown := by
    by_cases hx : i = x
    · subst hx; rw [AHeap.kill_same] at hi; cases hi
    · rw [AHeap.kill_ne H hx] at hi
      obtain ⟨a, b⟩ := h.own i o hi hown
      refine ⟨a, fun j o' hj hne => ?_⟩
      by_cases hjx : j = x
      · subst hjx; rw [AHeap.kill_same] at hj; cases hj
      · rw [AHeap.kill_ne H hjx] at hj; exact b j o' hj hne

/-- a block of the call's own is written -/
theorem Rel.write {w0 : World} {E : Env} {H : AHeap} {w w' : World} (h : Rel w0 E H w) {i : Nat} {o : AObj} (hi : H.get i = some o) (hown : o.own = true) (o' : AObj)
    (hs : w'.heap.size = w.heap.size) (ht : w'.tape = w.tape) (hos : w'.os = w.os) (hout : w'.output = w.output)
    (hsame : ∀ b, b ≠ E.b i → w'.heap[b]? = w.heap[b]?) (ho : ORel E w' i o') : Rel w0 E (H.set i o') w' where
  n := h.n
  size := hs ▸ h.size
  old b hb := (hsame b (fun e => by have := (h.own i o hi hown).1; omega)).trans (h.old b hb)
  tape := ht.trans h.tape
  os := hos.trans h.os
  output := hout.trans h.output
  obj j u hj := by
    by_cases hx : j = i
    · subst hx; rw [AHeap.set_same] at hj; cases hj; exact ⟨(h.obj j o hi).1, hs ▸ (h.obj j o hi).2.1, ho⟩
    · rw [AHeap.set_ne H o' hx] at hj
      obtain ⟨a, b, c⟩ := h.obj j u hj
      exact ⟨a, hs ▸ b, c.mono (Ext.refl E) (h.n ▸ a) (hsame _ ((h.own i o hi hown).2 j u hj hx))⟩
  own j u hj hu := by
    obtain ⟨ha, hb⟩ := h.own i o hi hown
    by_cases hx : j = i
    · subst hx
      exact ⟨ha, fun k u' hk hne => by rw [AHeap.set_ne H o' hne] at hk; exact hb k u' hk hne⟩
    · rw [AHeap.set_ne H o' hx] at hj
      obtain ⟨a, b⟩ := h.own j u hj hu
      refine ⟨a, fun k u' hk hne => ?_⟩
      by_cases hki : k = i
      · subst hki; exact fun e => hb j u hj hx e.symm
      · rw [AHeap.set_ne H o' hki] at hk; exact b k u' hk hne

/-- a block of the call's own is written, and no more described -/
theorem Rel.writeDead {w0 : World} {E : Env} {H : AHeap} {w w' : World} (h : Rel w0 E H w) {i : Nat} {o : AObj} (hi : H.get i = some o) (hown : o.own = true)
    (hs : w'.heap.size = w.heap.size) (ht : w'.tape = w.tape) (hos : w'.os = w.os) (hout : w'.output = w.output)
    (hsame : ∀ b, b ≠ E.b i → w'.heap[b]? = w.heap[b]?) : Rel w0 E (H.kill i) w' where
  n := h.n
  size := hs ▸ h.size
  old b hb := (hsame b (fun e => by have := (h.own i o hi hown).1; omega)).trans (h.old b hb)
  tape := ht.trans h.tape
  os := hos.trans h.os
  output := hout.trans h.output
  obj j u hj := by
    by_cases hx : j = i
    · subst hx; rw [AHeap.kill_same] at hj; cases hj
    · rw [AHeap.kill_ne H hx] at hj
      obtain ⟨a, b, c⟩ := h.obj j u hj
      exact ⟨a, hs ▸ b, c.mono (Ext.refl E) (h.n ▸ a) (hsame _ ((h.own i o hi hown).2 j u hj hx))⟩
  own := (h.kill i).own

theorem VRel.back {E E' : Env} (hE : Ext E E') {v v1 : Value} (h : VRel E v v1) : ∀ {v2 : Value}, VRel E' v v2 → VRel E v v2 := by
  induction h with
  | any v => intro v2 _; exact .any _
  | bool b => intro v2 g; cases g; exact .bool b
  | int k i => intro v2 g; cases g; exact .int k i
  | float k x => intro v2 g; cases g; exact .float k x
  | skipped => intro v2 g; cases g; exact .skipped
  | string s => intro v2 g; cases g; exact .string s
  | ptrNil => intro v2 g; cases g; exact .ptrNil
  | ptr a off h => intro v2 g; cases g; rw [hE.b a h, hE.d a h]; exact .ptr a off h
  | sliceNil => intro v2 g; cases g; exact .sliceNil
  | slice a off len cap h =>
    intro v2 g
    cases g with
    | slice _ _ _ _ _ => rw [hE.b a h, hE.d a h, hE.s a h]; exact .slice a off len cap h
    | slice0 _ _ x _ hs => exact .slice0 a off x h ((hE.s a h).symm.trans hs)
  | slice0 a off x h hs =>
    intro v2 g
    cases g with
    | slice _ _ _ _ _ => rw [hE.b a h, hE.d a h, hE.s a h]; exact .slice a off 0 0 h
    | slice0 _ _ x _ hs => exact .slice0 a off x h ((hE.s a h).symm.trans hs)
  | mapNil => intro v2 g; cases g; exact .mapNil
  | chanNil => intro v2 g; cases g; exact .chanNil
  | map r h => intro v2 g; cases g; rw [hE.b r h]; exact .map r h
  | func fn fs fs' cs cs' hf h1 h2 _ _ ih3 ih4 =>
    intro v2 g
    cases g with
    | func _ _ fs2 _ cs2 hf' g1 g2 g3 g4 =>
      rw [← (fnMap_ext hE hf).1]
      exact .func fn fs fs2 cs cs2 hf g1 g2 (fun i hi => ih3 i hi (g3 i hi)) (fun i hi => ih4 i hi (g4 i hi))
  | nilFunc => intro v2 g; cases g; exact .nilFunc
  | iface t v v' _ ih => intro v2 g; cases g with | iface _ _ w h => exact .iface t v w (ih h)
  | nilIface => intro v2 g; cases g; exact .nilIface
  | agg fs fs' h1 _ ih => intro v2 g; cases g with | agg _ fs2 g1 g3 => exact .agg fs fs2 g1 (fun i hi => ih i hi (g3 i hi))
  | tuple fs fs' h1 _ ih =>
    intro v2 g
    cases g with
    | any v => exact .any _
    | tuple _ fs2 g1 g3 => exact .tuple fs fs2 g1 (fun i hi => ih i hi (g3 i hi))

theorem ARel.back {E E' : Env} (hE : Ext E E') {a a1 a2 : Array Value} (h : ARel E a a1) (g : ARel E' a a2) : ARel E a a2 :=
  ⟨g.size, fun i hi => (h.get i hi).back hE (g.get i hi)⟩
theorem TgtRel.back {E E' : Env} (hE : Ext E E') {t t1 t2 : Target} (h : TgtRel E t t1) (g : TgtRel E' t t2) : TgtRel E t t2 := by
  cases t <;> cases t1 <;> cases t2 <;> simp only [TgtRel] at h g ⊢
  · exact ⟨h.1, g.2.1.trans (fnMap_ext hE h.1).1.symm, h.2.2.back hE g.2.2⟩
  · exact ⟨h.1, g.2.trans (hE.b _ h.1)⟩
theorem DsRel.back {E E' : Env} (hE : Ext E E') : ∀ {ds d1 d2 : List Deferred}, DsRel E ds d1 → DsRel E' ds d2 → DsRel E ds d2
  | [], [], [], _, _ => trivial
  | _ :: _, _ :: _, _ :: _, h, g => ⟨⟨h.1.1.back hE g.1.1, h.1.2.back hE g.1.2⟩, DsRel.back hE h.2 g.2⟩
  | _ :: _, [], _, h, _ => h.elim
  | [], _ :: _, _, h, _ => h.elim
  | _ :: _, _ :: _, [], _, g => g.elim
  | [], [], _ :: _, _, g => g.elim

theorem ORel.back {E E' : Env} (hE : Ext E E') {w w' : World} {i : Nat} (hi : i < E.n) {o : AObj} (h : ORel E w i o) (g : ORel E' w' i o) : ORel E w' i o := by
  have hb : E'.b i = E.b i := hE.b i hi
  have hd : E'.d i = E.d i := hE.d i hi
  have hs : E'.s i = E.s i := hE.s i hi
  cases o with
  | cells c own sz =>
    rcases h with h | ⟨c1, el1, fr1, h1, h2, h3⟩
    · exact .inl h
    rcases g with g | ⟨c2, el2, fr2, g1, g2, g3⟩
    · exact .inl g
    rw [hd] at g2 g3
    rw [hs] at g3
    rw [hb] at g1
    refine .inr ⟨c2, el2, fr2, g1, fun k v hv => ?_, g3⟩
    obtain ⟨v1, _, b1, _⟩ := h2 k v hv
    obtain ⟨v2, a2, b2, o2⟩ := g2 k v hv
    exact ⟨v2, a2, b1.back hE b2, o2⟩
  | map es clock own =>
    obtain ⟨e1, h1, h2, h3⟩ := h
    obtain ⟨e2, g1, g2, g3⟩ := g
    rw [hb] at g1
    refine ⟨e2, g1, g2, fun k e he => ?_⟩
    obtain ⟨x1, _, b1⟩ := h3 k e he
    obtain ⟨x2, a2, b2⟩ := g3 k e he
    exact ⟨x2, a2, ⟨b2.born, b1.key.back hE b2.key, b1.val.back hE b2.val⟩⟩
  | strIter s pos => have g' : _ = _ := g; rw [hb] at g'; exact g'
  | mapIter m since seen stepped =>
    obtain ⟨h1, h2⟩ := h
    obtain ⟨g1, g2⟩ := g
    refine ⟨?_, h2⟩
    rw [hb] at g1
    rw [g1]
    cases m with
    | none => rfl
    | some x => simp [hE.b x (h2 x rfl)]
  | loop l =>
    obtain ⟨l1, h1, h2⟩ := h
    obtain ⟨l2, g1, g2⟩ := g
    rw [hb] at g1
    exact ⟨l2, g1, ⟨g2.state, g2.pending, g2.fn, h2.tmps.back hE g2.tmps, g2.params, g2.assign, g2.body, g2.defers.trans (hE.b _ h2.dlt), h2.dlt⟩⟩
  | deferred ds =>
    obtain ⟨d1, h1, h2⟩ := h
    obtain ⟨d2, g1, g2⟩ := g
    rw [hb] at g1
    exact ⟨d2, g1, h2.back hE g2⟩

end Go.Abs
