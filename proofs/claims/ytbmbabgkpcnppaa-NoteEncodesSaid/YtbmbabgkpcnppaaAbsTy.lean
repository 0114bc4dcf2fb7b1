/- A light table of the program's types. -/
import Derived.Test.YtbmbabgkpcnppaaAbsCore
import Derived.Laws.Sem
set_option linter.all false
namespace Go.Abs
open Go

inductive TD where
  | bool | int (k : IntKind) | float (k : FloatKind) | string | ptr (e : TypeId) | slice (e : TypeId) | arr (n : Nat) (e : TypeId)
  | map (k e : TypeId) | struct (fs : List (Nat × TypeId)) | func | iface (ms : List (String × TypeId)) | other

structure TE where
  d : TD
  size : Nat
  bytes : Nat
  zero : Value
  ms : List String
  cmp : Bool

def TD.agg : TD → Bool
  | .struct _ | .arr _ _ => true
  | _ => false

abbrev Tab := List TE

def fieldsOk : List (Nat × TypeId) → List Field → Bool
  | [], [] => true
  | (o, t) :: fs, f :: gs => Nat.beq f.offset o && Nat.beq f.type t && fieldsOk fs gs
  | _, _ => false
def msOk : List (String × TypeId) → List (String × TypeId) → Bool
  | [], [] => true
  | (n, t) :: fs, (m, u) :: gs => (n == m) && Nat.beq t u && msOk fs gs
  | _, _ => false

def kEq : IntKind → IntKind → Bool
  | .i8, .i8 | .i16, .i16 | .i32, .i32 | .i64, .i64 | .u8, .u8 | .u16, .u16 | .u32, .u32 | .u64, .u64 => true
  | _, _ => false
theorem kEq_eq {a b : IntKind} (h : kEq a b = true) : a = b := by cases a <;> cases b <;> simp_all [kEq]
def fEq : FloatKind → FloatKind → Bool
  | .f32, .f32 | .f64, .f64 => true
  | _, _ => false
theorem fEq_eq {a b : FloatKind} (h : fEq a b = true) : a = b := by cases a <;> cases b <;> simp_all [fEq]

def dOk : TypeDesc → TD → Bool
  | .bool, .bool => true
  | .int k, .int l => kEq k l
  | .float k, .float l => fEq k l
  | .string, .string => true
  | .pointer e, .ptr f => Nat.beq e f
  | .slice e, .slice f => Nat.beq e f
  | .array n e, .arr m f => Nat.beq n m && Nat.beq e f
  | .map k e, .map l f => Nat.beq k l && Nat.beq e f
  | .struct fs, .struct gs => fieldsOk gs fs.toList
  | .func _ _ _, .func => true
  | .interface ms, .iface ns => msOk ns ms.toList
  | _, .other => true
  | _, _ => false

/-- simple values: those of a zero value's cells -/
def sEq : Value → Value → Bool
  | .bool a, .bool b => a == b
  | .int k a, .int l b => kEq k l && (match Int.decEq a b with | isTrue _ => true | isFalse _ => false)
  | .float k a, .float l b => fEq k l && Nat.beq a b
  | .string a, .string b => a.size == 0 && b.size == 0
  | .pointer none, .pointer none => true
  | .slice none 0 0, .slice none 0 0 => true
  | .map none, .map none => true
  | .chan none, .chan none => true
  | .nilFunc, .nilFunc => true
  | .nilIface, .nilIface => true
  | _, _ => false
def lEq : List Value → List Value → Bool
  | [], [] => true
  | a :: as, b :: bs => sEq a b && lEq as bs
  | _, _ => false
def vEq : Value → Value → Bool
  | .agg a, .agg b => lEq a.toList b.toList
  | a, b => sEq a b

theorem ba_empty {a : ByteArray} (h : a.size = 0) : a = ByteArray.empty := by
  cases a with | mk d => simp [ByteArray.size] at h; subst h; rfl
theorem sEq_eq {a b : Value} (h : sEq a b = true) : a = b := by
  unfold sEq at h
  split at h <;> simp_all
  case _ => obtain ⟨h1, h2⟩ := h; refine ⟨kEq_eq h1, ?_⟩; split at h2 <;> simp_all
  case _ => obtain ⟨h1, h2⟩ := h; exact fEq_eq h1
theorem lEq_eq : ∀ {a b : List Value}, lEq a b = true → a = b
  | [], [], _ => rfl
  | a :: as, b :: bs, h => by
    simp only [lEq, Bool.and_eq_true] at h
    rw [sEq_eq h.1, lEq_eq h.2]
  | [], _ :: _, h => by simp [lEq] at h
  | _ :: _, [], h => by simp [lEq] at h
theorem vEq_eq {a b : Value} (h : vEq a b = true) : a = b := by
  unfold vEq at h
  split at h
  · have := lEq_eq h; simp_all
  · exact sEq_eq h

/-- values that are the same whatever the renaming -/
def simple1 : Value → Bool
  | .bool _ | .int _ _ | .float _ _ | .string _ | .pointer none | .slice none 0 0 | .map none | .chan none | .nilFunc | .nilIface => true
  | .func (.func _) fs cs => Nat.beq fs.size 0 && Nat.beq cs.size 0
  | _ => false
def allSimple : List Value → Bool
  | [] => true
  | v :: vs => simple1 v && allSimple vs
def simpleV : Value → Bool
  | .agg cs => allSimple cs.toList
  | .tuple cs => Nat.beq cs.size 0
  | v => simple1 v
theorem simple1_rel {v : Value} (h : simple1 v = true) (E : Env) : VRel E v v := by
  unfold simple1 at h
  split at h
  all_goals first
    | exact .bool _
    | exact .int _ _
    | exact .float _ _
    | exact .string _
    | exact .ptrNil
    | exact .sliceNil
    | exact .mapNil
    | exact .chanNil
    | exact .nilFunc
    | exact .nilIface
    | (simp only [Bool.and_eq_true] at h
       have h1 := Nat.eq_of_beq_eq_true h.1
       have h2 := Nat.eq_of_beq_eq_true h.2
       exact .func (.func _) _ _ _ _ trivial rfl rfl (fun i hi => by omega) (fun i hi => by omega))
    | exact absurd h (by simp)
theorem allSimple_get : ∀ {l : List Value}, allSimple l = true → ∀ (i : Nat) v, l[i]? = some v → simple1 v = true
  | [], _, i, v, h => by simp at h
  | a :: l, h, i, v, hi => by
    simp only [allSimple, Bool.and_eq_true] at h
    cases i with
    | zero => simp at hi; subst hi; exact h.1
    | succ i => exact allSimple_get h.2 i v (by simpa using hi)
theorem allSimple_rel {l : List Value} (h : allSimple l = true) (E : Env) : LRel E l l.toArray :=
  LRel.of_get (by simp) fun i v hv => ⟨v, by simpa using hv, simple1_rel (allSimple_get h i v hv) E⟩
theorem simpleV_rel {v : Value} (h : simpleV v = true) (E : Env) : VRel E v v := by
  unfold simpleV at h
  split at h
  · rename_i cs; have := (allSimple_rel h E).toArray; exact .agg _ _ rfl (fun i hi => by have := this.get i (by simpa using hi); simpa using this)
  · rename_i cs; have h1 := Nat.eq_of_beq_eq_true h; have : cs = #[] := by simpa using h1
    subst this; exact .any _
  · exact simple1_rel h E
def simpleZ : Value → Bool
  | .agg cs => allSimple cs.toList
  | v => simple1 v
theorem simpleZ_V {v : Value} (h : simpleZ v = true) : simpleV v = true := by
  unfold simpleZ at h
  split at h
  · exact h
  · rename_i hn
    unfold simpleV
    split
    · exact absurd rfl (hn _)
    · simp [simple1] at h
    · exact h
theorem sEq_simple {a b : Value} (h : sEq a b = true) : simple1 b = true := by
  unfold sEq at h
  split at h <;> simp_all [simple1]
theorem lEq_simple : ∀ {a b : List Value}, lEq a b = true → allSimple b = true
  | [], [], _ => rfl
  | a :: as, b :: bs, h => by
    simp only [lEq, Bool.and_eq_true] at h
    simp only [allSimple, Bool.and_eq_true]; exact ⟨sEq_simple h.1, lEq_simple h.2⟩
  | [], _ :: _, h => by simp [lEq] at h
  | _ :: _, [], h => by simp [lEq] at h
theorem vEq_simple {a b : Value} (h : vEq a b = true) : simpleZ b = true := by
  unfold vEq at h
  split at h
  · exact lEq_simple h
  · rename_i hn
    have := sEq_simple h
    unfold simpleZ
    split
    · simp [simple1] at this
    · exact this

def allInfo (P : Program) : TD → Bool
  | .struct fs => fs.all fun f => (P.info? f.2).isSome
  | _ => true
/-- a method whose receiver is the value as it is, surely none that is nil where it would be taken apart -/
def sureMeth (P : Program) (t : TypeId) (m : String) : Bool :=
  match P.info? t with
  | some i => (match i.methods.find? (fun x => x.name == m) with
    | some r => (match r.path.isEmpty, r.func with
      | true, some (_, ptr) => (match P.underlying t with
        | some (.pointer _) => ptr
        | some _ => !ptr
        | none => false)
      | _, _ => false)
    | none => false)
  | none => false
def flatFs : List Field → Nat → Bool
  | [], _ => true
  | f :: fs, o => (f.name != "_") && Nat.beq f.offset o && flatFs fs (o + 1)
/-- a struct whose fields stand one behind the other, none of them blank, that may be compared -/
def cmpOk (P : Program) (t : TypeId) : Bool :=
  (match P.underlying t with | some (.struct fs) => flatFs fs.toList 0 | _ => false) && !P.stoodInHeld t && !P.eqGuardType P.depth t
def eOk (P : Program) (t : TypeId) (e : TE) : Bool :=
  match e.d with
  | .other => true
  | _ =>
  match P.info? t with
  | none => false
  | some i => Nat.beq i.size e.size && Nat.beq i.bytes e.bytes && (match i.zero with | some z => vEq z e.zero | none => false) && Nat.beq e.zero.cells.size e.size &&
    (match P.underlying t with | some d => dOk d e.d | none => false) && allInfo P e.d && e.ms.all (sureMeth P t) && (!e.cmp || cmpOk P t)

def tabOkFrom (P : Program) : Tab → Nat → Bool
  | [], _ => true
  | e :: es, t => eOk P t e && tabOkFrom P es (t + 1)
def tabOk (P : Program) (tt : Tab) : Bool := tabOkFrom P tt 0

def FieldsOk (fs : List (Nat × TypeId)) (gs : Array Field) : Prop :=
  fs.length = gs.size ∧ ∀ (i : Nat) o t, fs[i]? = some (o, t) → ∃ g, gs[i]? = some g ∧ g.offset = o ∧ g.type = t
def MsOk (fs : List (String × TypeId)) (gs : Array (String × TypeId)) : Prop := gs.toList = fs

def DOk (d : TypeDesc) : TD → Prop
  | .bool => d = .bool
  | .int k => d = .int k
  | .float k => d = .float k
  | .string => d = .string
  | .ptr e => d = .pointer e
  | .slice e => d = .slice e
  | .arr n e => d = .array n e
  | .map k e => d = .map k e
  | .struct fs => ∃ gs, d = .struct gs ∧ FieldsOk fs gs
  | .func => ∃ a b c, d = .func a b c
  | .iface ms => ∃ ns, d = .interface ns ∧ MsOk ms ns
  | .other => True

structure EOk (P : Program) (t : TypeId) (e : TE) : Prop where
  info : ∃ i, P.info? t = some i ∧ i.size = e.size ∧ i.bytes = e.bytes ∧ i.zero = some e.zero
  und : ∃ d, P.underlying t = some d ∧ DOk d e.d
  simple : simpleZ e.zero = true
  zsize : e.zero.cells.size = e.size
  infos : allInfo P e.d = true
  meths : ∀ m ∈ e.ms, sureMeth P t m = true
  cmps : e.cmp = true → cmpOk P t = true
  fields : ∀ {fs}, e.d = .struct fs → ∀ gs, P.underlying t = some (.struct gs) → fieldsOk fs gs.toList = true

def TyOk (P : Program) (tt : Tab) : Prop := ∀ (t : Nat) e, tt[t]? = some e → e.d ≠ .other → EOk P t e

theorem fieldsOk_get : ∀ {fs : List (Nat × TypeId)} {gs : List Field}, fieldsOk fs gs = true →
    fs.length = gs.length ∧ ∀ (i : Nat) o t, fs[i]? = some (o, t) → ∃ g, gs[i]? = some g ∧ g.offset = o ∧ g.type = t
  | [], [], _ => ⟨rfl, fun i o t h => by simp at h⟩
  | (o, t) :: fs, g :: gs, h => by
    simp only [fieldsOk, Bool.and_eq_true] at h
    obtain ⟨h1, h2⟩ := fieldsOk_get h.2
    refine ⟨by simp [h1], fun i o' t' hi => ?_⟩
    cases i with
    | zero => simp at hi; exact ⟨g, rfl, (Nat.eq_of_beq_eq_true h.1.1).trans hi.1, (Nat.eq_of_beq_eq_true h.1.2).trans hi.2⟩
    | succ i => simpa using h2 i o' t' (by simpa using hi)
  | [], _ :: _, h => by simp [fieldsOk] at h
  | _ :: _, [], h => by simp [fieldsOk] at h
theorem msOk_eq : ∀ {fs gs : List (String × TypeId)}, msOk fs gs = true → gs = fs
  | [], [], _ => rfl
  | (n, t) :: fs, (m, u) :: gs, h => by
    simp only [msOk, Bool.and_eq_true, beq_iff_eq] at h
    rw [msOk_eq h.2, h.1.1, Nat.eq_of_beq_eq_true h.1.2]
  | [], _ :: _, h => by simp [msOk] at h
  | _ :: _, [], h => by simp [msOk] at h

theorem dOk_DOk {d : TypeDesc} {e : TD} (h : dOk d e = true) : DOk d e := by
  unfold dOk at h
  split at h <;> simp only [DOk, Bool.and_eq_true] at h ⊢
  case _ => rw [kEq_eq h]
  case _ => rw [fEq_eq h]
  case _ => rw [Nat.eq_of_beq_eq_true h]
  case _ => rw [Nat.eq_of_beq_eq_true h]
  case _ => rw [Nat.eq_of_beq_eq_true h.1, Nat.eq_of_beq_eq_true h.2]
  case _ => rw [Nat.eq_of_beq_eq_true h.1, Nat.eq_of_beq_eq_true h.2]
  case _ => obtain ⟨h1, h2⟩ := fieldsOk_get h; exact ⟨_, rfl, by simpa using h1, fun i o t hi => by simpa using h2 i o t hi⟩
  case _ => exact ⟨_, _, _, rfl⟩
  case _ => exact ⟨_, rfl, msOk_eq h⟩
  case _ => exact absurd h (by simp)

theorem eOk_EOk {P : Program} {t : TypeId} {e : TE} (h : eOk P t e = true) (hne : e.d ≠ .other) : EOk P t e := by
  unfold eOk at h
  split at h
  · rename_i hd; exact absurd hd hne
  · split at h
    · exact absurd h (by simp)
    · rename_i i hi
      simp only [Bool.and_eq_true] at h
      obtain ⟨⟨⟨⟨⟨⟨⟨h1, h2⟩, h3⟩, h5⟩, h4⟩, h6⟩, h7⟩, h8⟩ := h
      refine ⟨⟨i, hi, Nat.eq_of_beq_eq_true h1, Nat.eq_of_beq_eq_true h2, ?_⟩, ?_, ?_, Nat.eq_of_beq_eq_true h5, h6, fun m hm => List.all_eq_true.1 h7 m hm, fun hc => by simpa [hc] using h8, fun hd gs hu => by rw [hu, hd] at h4; exact h4⟩
      · split at h3
        · rename_i z hz; rw [hz, vEq_eq h3]
        · exact absurd h3 (by simp)
      · split at h4
        · rename_i d hd; exact ⟨d, hd, dOk_DOk h4⟩
        · exact absurd h4 (by simp)
      · split at h3
        · exact vEq_simple h3
        · exact absurd h3 (by simp)

theorem tabOkFrom_get {P : Program} : ∀ {tt : Tab} {n : Nat}, tabOkFrom P tt n = true → ∀ (i : Nat) e, tt[i]? = some e → eOk P (n + i) e = true
  | [], _, _, i, e, h => by simp at h
  | e :: es, n, h, i, e', hi => by
    simp only [tabOkFrom, Bool.and_eq_true] at h
    cases i with
    | zero => simp at hi; subst hi; exact h.1
    | succ i => have := tabOkFrom_get h.2 i e' (by simpa using hi); rwa [show n + 1 + i = n + (i + 1) by omega] at this

theorem tyOk_of {P : Program} {tt : Tab} (h : tabOk P tt = true) : TyOk P tt := fun t e he hne => by
  have := tabOkFrom_get h t e he
  rw [Nat.zero_add] at this
  exact eOk_EOk this hne

end Go.Abs
