/- Primitive operations: definitions, and soundness against the model's programs. -/
import Derived.Test.YtbmbabgkpcnppaaAbsMem
set_option linter.all false
namespace Go.Abs
open Go

def Outc (P : Program) (w0 : World) (E : Env) (s : Sem Next) (w : World) (k : Value → AHeap → Prop) : Prop :=
  ∃ v H' E' v' w', k v H' ∧ (s.run P w = .ok (.value v') w' ∨ (s.run P w = .ok .skip w' ∧ v = undef)) ∧ Ext E E' ∧ Rel w0 E' H' w' ∧ VRel E' v v'
/-- the same for a program that gives a value -/
def OutV (P : Program) (w0 : World) (E : Env) (s : Sem Value) (w : World) (k : Value → AHeap → Prop) : Prop :=
  ∃ v H' E' v' w', k v H' ∧ s.run P w = .ok v' w' ∧ Ext E E' ∧ Rel w0 E' H' w' ∧ VRel E' v v'

theorem OutV.of {P : Program} {w0 : World} {E : Env} {H : AHeap} {s : Sem Value} {w : World} {k : Value → AHeap → Prop} (h : Rel w0 E H w) {v v' : Value} (hk : k v H)
    (hr : s.run P w = .ok v' w) (hv : VRel E v v') : OutV P w0 E s w k := ⟨v, H, E, v', w, hk, hr, Ext.refl E, h, hv⟩
theorem OutV.out {P : Program} {w0 : World} {E : Env} {s : Sem Value} {w : World} {k : Value → AHeap → Prop} (h : OutV P w0 E s w k) :
    Outc P w0 E (s >>= fun v => Pure.pure (Next.value v)) w k := by
  obtain ⟨v, H', E', v', w', h1, h2, h3, h4, h5⟩ := h
  exact ⟨v, H', E', v', w', h1, .inl (by simp [h2]), h3, h4, h5⟩

section
variable {P : Program} {tt : Tab} {w0 : World} {E : Env} {H : AHeap} {w : World} {k : Value → AHeap → Prop}

/-! integers -/
@[irreducible] def bitsOf (op : BinOp) (k : IntKind) (x y : Int) : Int :=
  match op with
  | .and => k.wrap (BitVec.ofInt k.bits x &&& BitVec.ofInt k.bits y).toNat
  | .or => k.wrap (BitVec.ofInt k.bits x ||| BitVec.ofInt k.bits y).toNat
  | .xor => k.wrap (BitVec.ofInt k.bits x ^^^ BitVec.ofInt k.bits y).toNat
  | _ => k.wrap (BitVec.ofInt k.bits x &&& ~~~BitVec.ofInt k.bits y).toNat
@[irreducible] def shlOf (k : IntKind) (x y : Int) : Int := x * 2 ^ (min y.toNat k.bits)
@[irreducible] def shrOf (k : IntKind) (x y : Int) : Int := x.fdiv (2 ^ (min y.toNat k.bits))

abbrev intBinK (op : BinOp) (k : IntKind) (x y : Int) (K : Value → Prop) : Prop :=
  match op with
  | .add => intK k (x + y) fun n => K (.int k n)
  | .sub => intK k (x - y) fun n => K (.int k n)
  | .mul => intK k (x * y) fun n => K (.int k n)
  | .quo => reqK (!decide (y = 0)) (intK k (x.tdiv y) fun n => K (.int k n))
  | .rem => reqK (!decide (y = 0)) (K (.int k (x.tmod y)))
  | .and => K (.int k (bitsOf .and k x y))
  | .or => K (.int k (bitsOf .or k x y))
  | .xor => K (.int k (bitsOf .xor k x y))
  | .andNot => K (.int k (bitsOf .andNot k x y))
  | .eql => K (.bool (decide (x = y)))
  | .neq => K (.bool (!decide (x = y)))
  | .lss => K (.bool (decide (x < y)))
  | .leq => K (.bool (decide (x ≤ y)))
  | .gtr => K (.bool (decide (y < x)))
  | .geq => K (.bool (decide (y ≤ x)))
  | _ => False
abbrev shiftK (op : BinOp) (k : IntKind) (x y : Int) (K : Value → Prop) : Prop :=
  match op with
  | .shl => reqK (decide (0 ≤ y)) (intK k (shlOf k x y) fun n => K (.int k n))
  | .shr => reqK (decide (0 ≤ y)) (K (.int k (shrOf k x y)))
  | _ => False
abbrev strBinK (op : BinOp) (s t : ByteArray) (K : Value → Prop) : Prop :=
  match op with
  | .add => reqK (decide (s.size + t.size ≤ 1099511627776)) (K (.string (s ++ t)))
  | .eql => K (.bool (s.toList == t.toList))
  | .neq => K (.bool (!(s.toList == t.toList)))
  | .lss => K (.bool (Op.bytesLess s.toList t.toList))
  | .leq => K (.bool (Op.bytesLess s.toList t.toList || (s.toList == t.toList)))
  | .gtr => K (.bool (!(Op.bytesLess s.toList t.toList || (s.toList == t.toList))))
  | .geq => K (.bool (!(Op.bytesLess s.toList t.toList)))
  | _ => False
/-- '==' of flat structs, cell by cell -/
def cellsEqK (tt : Tab) : List (Nat × TypeId) → List Value → List Value → (Bool → Prop) → Prop
  | [], [], [], K => K true
  | f :: fs, x :: xs, y :: ys, K => tyK tt f.2 fun te => (match te.d with
    | .int _ => (match x with
      | .int k a => (match y with | .int l b => (match kEq k l with | true => cellsEqK tt fs xs ys fun r => K (decide (a = b) && r) | false => False) | _ => False)
      | _ => False)
    | .bool => (match x with
      | .bool a => (match y with | .bool b => cellsEqK tt fs xs ys fun r => K ((a == b) && r) | _ => False)
      | _ => False)
    | .string => (match x with
      | .string a => (match y with | .string b => cellsEqK tt fs xs ys fun r => K (decide (a = b) && r) | _ => False)
      | _ => False)
    | _ => False)
  | _, _, _, _ => False
/-- '==' where one side is nil, or of bools, or of flat structs -/
abbrev eqvK (tt : Tab) (te : TE) (a b : Value) (K : Bool → Prop) : Prop :=
  match te.d with
  | .bool => (match a, b with | .bool x, .bool y => K (x == y) | _, _ => False)
  | .ptr _ => (match a, b with
    | .pointer none, .pointer y => (match y with | none => K true | some _ => K false)
    | .pointer (some _), .pointer none => K false
    | _, _ => False)
  | .slice _ => (match a, b with
    | .slice none _ _, .slice y _ _ => (match y with | none => K true | some _ => K false)
    | .slice (some _) _ _, .slice none _ _ => K false
    | _, _ => False)
  | .map _ _ => (match a, b with
    | .map none, .map y => (match y with | none => K true | some _ => K false)
    | .map (some _), .map none => K false
    | _, _ => False)
  | .func => (match a, b with
    | .nilFunc, .nilFunc => K true
    | .nilFunc, .func _ _ _ => K false
    | .func _ _ _, .nilFunc => K false
    | _, _ => False)
  | .iface _ => (match a, b with
    | .nilIface, .iface _ _ => K false
    | .iface _ _, .nilIface => K false
    | _, _ => False)
  | .struct fs => (match te.cmp with
    | true => (match a, b with
      | .agg xs, .agg ys => cellsEqK tt fs xs.toList ys.toList K
      | _, _ => False)
    | false => False)
  | _ => False
abbrev binK (tt : Tab) (op : BinOp) (ty : TypeId) (a b : Value) (K : Value → Prop) : Prop :=
  match a with
  | .int ka x => (match b with
    | .int kb y => (match op with
      | .shl => shiftK .shl ka x y K
      | .shr => shiftK .shr ka x y K
      | op => (match kEq ka kb with | true => intBinK op ka x y K | false => False))
    | _ => False)
  | .string s => (match b with | .string t => strBinK op s t K | _ => False)
  | a => (match op with
    | .eql => tyK tt ty fun te => eqvK tt te a b fun r => K (.bool r)
    | .neq => tyK tt ty fun te => eqvK tt te a b fun r => K (.bool (!r))
    | _ => False)

theorem intBinK_sound {op : BinOp} {kk : IntKind} {x y : Int} {ty : TypeId} (h : Rel w0 E H w) (hop : op ≠ .shl ∧ op ≠ .shr) (hk : intBinK op kk x y fun v => k v H) :
    OutV P w0 E (binOp op ty (.int kk x) (.int kk y)) w k := by
  have key : ∀ v, (binOp op ty (.int kk x) (.int kk y)).run P w = .ok v w → simple1 v = true → k v H → OutV P w0 E (binOp op ty (.int kk x) (.int kk y)) w k :=
    fun v h1 h2 h3 => OutV.of h h3 h1 (simple1_rel h2 E)
  cases op <;> simp only [intBinK] at hk
  case add => exact key _ (by simp [binOp, Op.intArith]) rfl (intK_elim hk)
  case sub => exact key _ (by simp [binOp, Op.intArith]) rfl (intK_elim hk)
  case mul => exact key _ (by simp [binOp, Op.intArith]) rfl (intK_elim hk)
  case quo =>
    obtain ⟨h1, h2⟩ := reqK_elim hk
    have hy : y ≠ 0 := by simpa using h1
    exact key _ (by simp [binOp, Op.intDiv, hy]) rfl (intK_elim h2)
  case rem =>
    obtain ⟨h1, h2⟩ := reqK_elim hk
    have hy : y ≠ 0 := by simpa using h1
    exact key _ (by simp [binOp, Op.intDiv, hy]) rfl h2
  case and => exact key _ (by simp [binOp, Op.intBits, bitsOf]) rfl hk
  case or => exact key _ (by simp [binOp, Op.intBits, bitsOf]) rfl hk
  case xor => exact key _ (by simp [binOp, Op.intBits, bitsOf]) rfl hk
  case andNot => exact key _ (by simp [binOp, Op.intBits, bitsOf]) rfl hk
  case eql => exact key _ (by simp [binOp, Op.intCmp]; rfl) rfl hk
  case neq => exact key _ (by simp [binOp, Op.intCmp, bne]; rfl) rfl hk
  case lss => exact key _ (by simp [binOp, Op.intCmp]) rfl hk
  case leq => exact key _ (by simp [binOp, Op.intCmp]) rfl hk
  case gtr => exact key _ (by simp [binOp, Op.intCmp]) rfl hk
  case geq => exact key _ (by simp [binOp, Op.intCmp]) rfl hk

theorem shiftK_sound {op : BinOp} {kk ky : IntKind} {x y : Int} {ty : TypeId} (h : Rel w0 E H w) (hk : shiftK op kk x y fun v => k v H) :
    OutV P w0 E (binOp op ty (.int kk x) (.int ky y)) w k := by
  have key : ∀ v, (binOp op ty (.int kk x) (.int ky y)).run P w = .ok v w → simple1 v = true → k v H → OutV P w0 E (binOp op ty (.int kk x) (.int ky y)) w k :=
    fun v h1 h2 h3 => OutV.of h h3 h1 (simple1_rel h2 E)
  cases op <;> simp only [shiftK] at hk
  case shl =>
    obtain ⟨h1, h2⟩ := reqK_elim hk
    have hy : ¬ y < 0 := by simpa using h1
    exact key _ (by simp [binOp, Op.shift, hy, shlOf]) rfl (intK_elim h2)
  case shr =>
    obtain ⟨h1, h2⟩ := reqK_elim hk
    have hy : ¬ y < 0 := by simpa using h1
    exact key _ (by simp [binOp, Op.shift, hy, shrOf]) rfl h2

theorem strBinK_sound {op : BinOp} {s t : ByteArray} {ty : TypeId} (h : Rel w0 E H w) (hk : strBinK op s t fun v => k v H) :
    OutV P w0 E (binOp op ty (.string s) (.string t)) w k := by
  have key : ∀ v, (binOp op ty (.string s) (.string t)).run P w = .ok v w → simple1 v = true → k v H → OutV P w0 E (binOp op ty (.string s) (.string t)) w k :=
    fun v h1 h2 h3 => OutV.of h h3 h1 (simple1_rel h2 E)
  cases op <;> simp only [strBinK] at hk
  case add =>
    obtain ⟨h1, h2⟩ := reqK_elim hk
    have hy : s.size + t.size ≤ 1099511627776 := by simpa using h1
    have : ¬ (((s.size + t.size : Nat) : Int) > IntKind.i64.max) := by
      have : IntKind.i64.max = 9223372036854775807 := by decide
      omega
    exact key _ (by simp [binOp, Op.stringOp]; omega) rfl h2
  all_goals exact key _ (by simp [binOp, Op.stringOp]) rfl hk

section eqs
variable {ty : TypeId} {x y : Value} {d : TypeDesc}
theorem eq_bool (hu : (underlying ty).run P w = .ok .bool w) (a b : Bool) : (Op.equal ty (.bool a) (.bool b)).run P w = .ok (a == b) w := by
  show (Op.equalIn (9999 + 1) ty _ _).run P w = _
  rw [Op.equalIn]; simp only [Sem.run_bind, hu, Result.andThen_ok]; rfl
theorem eq_ptr1 {e : TypeId} (hu : (underlying ty).run P w = .ok (.pointer e) w) (b : Option Addr) : (Op.equal ty (.pointer none) (.pointer b)).run P w = .ok b.isNone w := by
  show (Op.equalIn (9999 + 1) ty _ _).run P w = _
  rw [Op.equalIn]; simp only [Sem.run_bind, hu, Result.andThen_ok]; rfl
theorem eq_ptr2 {e : TypeId} (hu : (underlying ty).run P w = .ok (.pointer e) w) (b : Addr) : (Op.equal ty (.pointer (some b)) (.pointer none)).run P w = .ok false w := by
  show (Op.equalIn (9999 + 1) ty _ _).run P w = _
  rw [Op.equalIn]; simp only [Sem.run_bind, hu, Result.andThen_ok]; rfl
theorem eq_slice1 {e : TypeId} (hu : (underlying ty).run P w = .ok (.slice e) w) (m n : Nat) (b : Option Addr) (m' n' : Nat) : (Op.equal ty (.slice none m n) (.slice b m' n')).run P w = .ok b.isNone w := by
  show (Op.equalIn (9999 + 1) ty _ _).run P w = _
  rw [Op.equalIn]; simp only [Sem.run_bind, hu, Result.andThen_ok]; rfl
theorem eq_slice2 {e : TypeId} (hu : (underlying ty).run P w = .ok (.slice e) w) (m n : Nat) (b : Addr) (m' n' : Nat) : (Op.equal ty (.slice (some b) m n) (.slice none m' n')).run P w = .ok false w := by
  show (Op.equalIn (9999 + 1) ty _ _).run P w = _
  rw [Op.equalIn]; simp only [Sem.run_bind, hu, Result.andThen_ok]; rfl
theorem eq_map1 {e f : TypeId} (hu : (underlying ty).run P w = .ok (.map e f) w) (b : Option Nat) : (Op.equal ty (.map none) (.map b)).run P w = .ok b.isNone w := by
  show (Op.equalIn (9999 + 1) ty _ _).run P w = _
  rw [Op.equalIn]; simp only [Sem.run_bind, hu, Result.andThen_ok]; rfl
theorem eq_map2 {e f : TypeId} (hu : (underlying ty).run P w = .ok (.map e f) w) (b : Nat) : (Op.equal ty (.map (some b)) (.map none)).run P w = .ok false w := by
  show (Op.equalIn (9999 + 1) ty _ _).run P w = _
  rw [Op.equalIn]; simp only [Sem.run_bind, hu, Result.andThen_ok]; rfl
theorem eq_func1 {p q : Array TypeId} {v : Bool} (hu : (underlying ty).run P w = .ok (.func p q v) w) : (Op.equal ty .nilFunc .nilFunc).run P w = .ok true w := by
  show (Op.equalIn (9999 + 1) ty _ _).run P w = _
  rw [Op.equalIn]; simp only [Sem.run_bind, hu, Result.andThen_ok]; rfl
theorem eq_func2 {p q : Array TypeId} {v : Bool} (hu : (underlying ty).run P w = .ok (.func p q v) w) (f : Fn) (a b : Array Value) : (Op.equal ty .nilFunc (.func f a b)).run P w = .ok false w := by
  show (Op.equalIn (9999 + 1) ty _ _).run P w = _
  rw [Op.equalIn]; simp only [Sem.run_bind, hu, Result.andThen_ok]; rfl
theorem eq_func3 {p q : Array TypeId} {v : Bool} (hu : (underlying ty).run P w = .ok (.func p q v) w) (f : Fn) (a b : Array Value) : (Op.equal ty (.func f a b) .nilFunc).run P w = .ok false w := by
  show (Op.equalIn (9999 + 1) ty _ _).run P w = _
  rw [Op.equalIn]; simp only [Sem.run_bind, hu, Result.andThen_ok]; rfl
theorem eq_iface1 {ms : Array (String × TypeId)} (hu : (underlying ty).run P w = .ok (.interface ms) w) (u : TypeId) (a : Value) : (Op.equal ty .nilIface (.iface u a)).run P w = .ok false w := by
  show (Op.equalIn (9999 + 1) ty _ _).run P w = _
  rw [Op.equalIn]; simp only [Sem.run_bind, hu, Result.andThen_ok]; rfl
theorem eq_iface2 {ms : Array (String × TypeId)} (hu : (underlying ty).run P w = .ok (.interface ms) w) (u : TypeId) (a : Value) : (Op.equal ty (.iface u a) .nilIface).run P w = .ok false w := by
  show (Op.equalIn (9999 + 1) ty _ _).run P w = _
  rw [Op.equalIn]; simp only [Sem.run_bind, hu, Result.andThen_ok]; rfl
end eqs

theorem ba_beqD (a b : ByteArray) : (a == b) = decide (a = b) := by
  cases a with | mk a => cases b with | mk b =>
  show (a == b) = _
  by_cases h : a = b
  · subst h; simp
  · simp [h]
theorem eqLoop (hT : TyOk P tt) {d : Nat} {xs ys : Array Value} {f : Field → Option Bool × Unit → Sem (ForInStep (Option Bool × Unit))}
    (hf : ∀ g s, f g s = (if g.name ≠ "_" then (do
      let a ← part g.type xs g.offset
      let b ← part g.type ys g.offset
      let r ← Op.equalIn (d + 1) g.type a b
      if (!r) = true then Pure.pure (ForInStep.done (some false, ())) else Pure.pure (ForInStep.yield (none, ()))) else Pure.pure (ForInStep.yield (none, ())))) :
    ∀ (gs : List Field) (fs : List (Nat × TypeId)) (o : Nat) (as bs : List Value) (K : Bool → Prop), flatFs gs o = true → fieldsOk fs gs = true →
      (∀ j v, as[j]? = some v → ∃ v', xs[o + j]? = some v' ∧ VRel E v v') → (∀ j v, bs[j]? = some v → ∃ v', ys[o + j]? = some v' ∧ VRel E v v') →
      cellsEqK tt fs as bs K → ∃ r, K r ∧ (forIn gs ((none, ()) : Option Bool × Unit) f).run P w = .ok (if r then none else some false, ()) w
  | [], [], o, as, bs, K, _, _, _, _, h => by
    cases as <;> cases bs <;> simp only [cellsEqK] at h
    exact ⟨true, h, by simp⟩
  | [], _ :: _, _, _, _, _, _, h, _, _, _ => by simp [fieldsOk] at h
  | _ :: _, [], _, _, _, _, _, h, _, _, _ => by simp [fieldsOk] at h
  | g :: gs, (o1, t1) :: fs, o, [], bs, K, _, _, _, _, h => by simp [cellsEqK] at h
  | g :: gs, (o1, t1) :: fs, o, a :: as, [], K, _, _, _, _, h => by simp [cellsEqK] at h
  | g :: gs, (o1, t1) :: fs, o, a :: as, b :: bs, K, h1, h2, ha, hb, h => by
    simp only [flatFs, fieldsOk, Bool.and_eq_true] at h1 h2
    obtain ⟨⟨hn, ho⟩, h1⟩ := h1
    obtain ⟨⟨_, ht⟩, h2⟩ := h2
    have ho := Nat.eq_of_beq_eq_true ho
    have ht := Nat.eq_of_beq_eq_true ht
    have hn : g.name ≠ "_" := by simpa using hn
    obtain ⟨a', pa, qa⟩ := ha 0 a rfl
    obtain ⟨b', pb, qb⟩ := hb 0 b rfl
    rw [Nat.add_zero, ← ho] at pa pb
    have ha' : ∀ j v, as[j]? = some v → ∃ v', xs[o + 1 + j]? = some v' ∧ VRel E v v' := fun j v hv => by
      have := ha (j + 1) v (by simpa using hv)
      rwa [show o + (j + 1) = o + 1 + j by omega] at this
    have hb' : ∀ j v, bs[j]? = some v → ∃ v', ys[o + 1 + j]? = some v' ∧ VRel E v v' := fun j v hv => by
      have := hb (j + 1) v (by simpa using hv)
      rwa [show o + (j + 1) = o + 1 + j by omega] at this
    simp only [cellsEqK] at h
    obtain ⟨te, hty, hz⟩ := tyK_elim h
    clear h
    have h := hz; clear hz
    rw [← ht] at hty
    have hd : te.d ≠ .other := by intro hd; rw [hd] at h; exact h
    obtain ⟨dd, hu, hdk⟩ := run_und (w := w) hT hty hd
    have hag := run_isAgg (w := w) hT hty hd
    have fin : ∀ c : Bool, te.d.agg = false → (Op.equalIn (d + 1) g.type a' b').run P w = .ok c w → cellsEqK tt fs as bs (fun r => K (c && r)) →
        ∃ r, K r ∧ (forIn (g :: gs) ((none, ()) : Option Bool × Unit) f).run P w = .ok (if r then none else some false, ()) w := fun c hg hc hk => by
      rw [hg] at hag
      have e1 : (part g.type xs g.offset).run P w = .ok a' w := by
        unfold part
        simp only [Sem.run_bind, hag, Result.andThen_ok, Bool.false_eq_true, if_false, pa, Sem.run_pure]
      have e2 : (part g.type ys g.offset).run P w = .ok b' w := by
        unfold part
        simp only [Sem.run_bind, hag, Result.andThen_ok, Bool.false_eq_true, if_false, pb, Sem.run_pure]
      obtain ⟨r, hr, hl⟩ := eqLoop hT hf gs fs (o + 1) as bs _ h1 h2 ha' hb' hk
      refine ⟨c && r, hr, ?_⟩
      rw [List.forIn_cons, hf, if_pos hn]
      simp only [Sem.run_bind, e1, e2, hc, Result.andThen_ok]
      cases c
      · simp [Sem.run_bind]
      · simpa [Sem.run_bind] using hl
    cases hed : te.d <;> simp only [hed] at h <;> simp only [hed, DOk] at hdk
    case bool =>
      subst hdk
      cases qa <;> first | exact h.elim | skip
      cases qb <;> first | exact h.elim | skip
      refine fin _ (by rw [hed]; rfl) ?_ h
      rw [Op.equalIn]; simp only [Sem.run_bind, hu, Result.andThen_ok]; rfl
    case int k =>
      subst hdk
      cases qa <;> first | exact h.elim | skip
      cases qb <;> first | exact h.elim | skip
      dsimp only at h
      split at h
      · rename_i hke
        have hke := kEq_eq hke
        subst hke
        refine fin _ (by rw [hed]; rfl) ?_ h
        rw [Op.equalIn]; simp only [Sem.run_bind, hu, Result.andThen_ok, if_true]; rfl
      · exact h.elim
    case string =>
      subst hdk
      cases qa <;> first | exact h.elim | skip
      cases qb <;> first | exact h.elim | skip
      refine fin _ (by rw [hed]; rfl) ?_ h
      rw [Op.equalIn]; simp only [Sem.run_bind, hu, Result.andThen_ok, Sem.run_pure, ba_beqD]
theorem eq_struct (hT : TyOk P tt) {ty : Nat} {te : TE} {fs : List (Nat × TypeId)} (hty : tt[ty]? = some te) (hd : te.d = .struct fs) (hc : te.cmp = true) {xs ys xs' ys' : Array Value} (hx : VRel E (.agg xs) (.agg xs')) (hy : VRel E (.agg ys) (.agg ys')) {K : Bool → Prop}
    (hk : cellsEqK tt fs xs.toList ys.toList K) : ∃ r, K r ∧ (Op.equal ty (.agg xs') (.agg ys')).run P w = .ok r w ∧ P.eqGuardType P.depth ty = false := by
  have hE := hT ty te hty (by rw [hd]; simp)
  have hcm := hE.cmps hc
  obtain ⟨dd, hu, hdk⟩ := hE.und
  have hfo := hE.fields hd
  rw [hd] at hdk
  obtain ⟨gs, rfl, _⟩ := hdk
  simp only [cmpOk, hu, Bool.and_eq_true, Bool.not_eq_true'] at hcm
  obtain ⟨⟨hfl, hst⟩, hgu⟩ := hcm
  have hfo := hfo gs hu
  have hg : ∀ (zs zs' : Array Value), VRel E (.agg zs) (.agg zs') → ∀ j v, zs.toList[j]? = some v → ∃ v', zs'[0 + j]? = some v' ∧ VRel E v v' := by
    intro zs zs' hz j v hv
    cases hz with
    | agg _ _ g1 g3 =>
      obtain ⟨hj, hv⟩ := List.getElem?_eq_some_iff.1 hv
      have hj : j < zs.size := by simpa using hj
      have := g3 j hj
      rw [Array.getD_eq_getD_getElem?, Array.getD_eq_getD_getElem?, Array.getElem?_eq_getElem hj, Array.getElem?_eq_getElem (by omega)] at this
      rw [Nat.zero_add]
      refine ⟨_, Array.getElem?_eq_getElem (by omega), ?_⟩
      have e : zs[j] = v := by simpa using hv
      rw [← e]
      simpa using this
  have hun : (underlying ty).run P w = .ok (.struct gs) w := by simp [underlying, hu]
  obtain ⟨r, hr, hl⟩ := eqLoop (w := w) (d := 9998) hT (fun _ _ => rfl) gs.toList fs 0 xs.toList ys.toList K hfl hfo (hg _ _ hx) (hg _ _ hy) hk
  refine ⟨r, hr, ?_, hgu⟩
  show (Op.equalIn (9999 + 1) ty _ _).run P w = _
  rw [Op.equalIn]
  simp only [Sem.run_bind, hun, Result.andThen_ok, run_program, hst, Bool.false_eq_true, if_false]
  rw [← Array.forIn_toList, hl]
  cases r <;> rfl

theorem eqvK_sound {ty : Nat} {te : TE} {a b a' b' : Value} (hT : TyOk P tt) (hty : tt[ty]? = some te) (ha : VRel E a a') (hb : VRel E b b') {K : Bool → Prop} (hk : eqvK tt te a b K) :
    ∃ r, K r ∧ (binOp .eql ty a' b').run P w = .ok (.bool r) w ∧ (binOp .neq ty a' b').run P w = .ok (.bool (!r)) w ∧ (∀ op x y, (eqGuard op ty x y a' b').run P w = .ok () w) := by
  have hd : te.d ≠ .other := by intro hd; unfold eqvK at hk; rw [hd] at hk; exact hk
  obtain ⟨d, hu, hdk⟩ := run_und (w := w) hT hty hd
  cases hed : te.d <;> simp only [hed, eqvK] at hk <;> simp only [hed, DOk] at hdk
  case bool =>
    subst hdk
    cases ha <;> first | exact hk.elim | skip
    cases hb <;> first | exact hk.elim | skip
    refine ⟨_, hk, ?_, ?_, fun op x y => by unfold eqGuard; cases op <;> rfl⟩ <;>
      simp only [binOp, Sem.run_bind, eq_bool hu, Result.andThen_ok, Sem.run_pure]
  case ptr e =>
    subst hdk
    cases ha <;> first | exact hk.elim | skip
    all_goals (cases hb <;> first | exact hk.elim | skip)
    all_goals
      refine ⟨_, hk, ?_, ?_, fun op x y => by unfold eqGuard; cases op <;> rfl⟩ <;>
      simp only [binOp, Sem.run_bind, eq_ptr1 hu, eq_ptr2 hu, Result.andThen_ok, Sem.run_pure, Option.isNone]
  case slice e =>
    subst hdk
    cases ha <;> first | exact hk.elim | skip
    all_goals (cases hb <;> first | exact hk.elim | skip)
    all_goals
      refine ⟨_, hk, ?_, ?_, fun op x y => by unfold eqGuard; cases op <;> rfl⟩ <;>
      simp only [binOp, Sem.run_bind, eq_slice1 hu, eq_slice2 hu, Result.andThen_ok, Sem.run_pure, Option.isNone]
  case map e f =>
    subst hdk
    cases ha <;> first | exact hk.elim | skip
    all_goals (cases hb <;> first | exact hk.elim | skip)
    all_goals
      refine ⟨_, hk, ?_, ?_, fun op x y => by unfold eqGuard; cases op <;> rfl⟩ <;>
      simp only [binOp, Sem.run_bind, eq_map1 hu, eq_map2 hu, Result.andThen_ok, Sem.run_pure, Option.isNone]
  case func =>
    obtain ⟨_, _, _, rfl⟩ := hdk
    cases ha <;> first | exact hk.elim | skip
    all_goals (cases hb <;> first | exact hk.elim | skip)
    all_goals
      refine ⟨_, hk, ?_, ?_, fun op x y => by unfold eqGuard; cases op <;> rfl⟩ <;>
      simp only [binOp, Sem.run_bind, eq_func1 hu, eq_func2 hu, eq_func3 hu, Result.andThen_ok, Sem.run_pure]
  case iface ms =>
    obtain ⟨_, rfl, _⟩ := hdk
    cases ha <;> first | exact hk.elim | skip
    all_goals (cases hb <;> first | exact hk.elim | skip)
    all_goals
      refine ⟨_, hk, ?_, ?_, fun op x y => by unfold eqGuard; cases op <;> rfl⟩ <;>
      simp only [binOp, Sem.run_bind, eq_iface1 hu, eq_iface2 hu, Result.andThen_ok, Sem.run_pure]
  case struct fs =>
    split at hk
    · rename_i hc
      cases ha <;> first | exact hk.elim | skip
      cases hb <;> first | exact hk.elim | skip
      rename_i xs xs' g1 g3 ys ys' g2 g4
      obtain ⟨r, hr, hq, hg⟩ := eq_struct (w := w) hT hty hed hc (.agg _ _ g1 g3) (.agg _ _ g2 g4) hk
      refine ⟨r, hr, ?_, ?_, fun op x y => ?_⟩
      · simp only [binOp, Sem.run_bind, hq, Result.andThen_ok, Sem.run_pure]
      · simp only [binOp, Sem.run_bind, hq, Result.andThen_ok, Sem.run_pure]
      · unfold eqGuard
        cases op <;> first | rfl | (simp [hg])
    · exact hk.elim

theorem eqGuard_scalar (op : BinOp) (ty : TypeId) (x y : Operand) (a b : Value) (h : simple1 a = true) (hn : a ≠ .nilIface) : (eqGuard op ty x y a b).run P w = .ok () w := by
  unfold eqGuard
  cases op <;> first | rfl | (cases a <;> first | rfl | (exact absurd rfl hn) | (simp [simple1] at h; done))

theorem binK_sound {op : BinOp} {ty : Nat} {x y : Operand} {a b a' b' : Value} (hT : TyOk P tt) (h : Rel w0 E H w) (ha : VRel E a a') (hb : VRel E b b') (hk : binK tt op ty a b fun v => k v H) :
    OutV P w0 E (do eqGuard op ty x y a' b'; binOp op ty a' b') w k := by
  have red : (eqGuard op ty x y a' b').run P w = .ok () w → OutV P w0 E (binOp op ty a' b') w k → OutV P w0 E (do eqGuard op ty x y a' b'; binOp op ty a' b') w k := by
    rintro hg ⟨v, H', E', v', w', h1, h2, h3, h4, h5⟩
    exact ⟨v, H', E', v', w', h1, by simp [hg, h2], h3, h4, h5⟩
  unfold binK at hk
  split at hk
  · rename_i ka i
    cases ha
    split at hk
    · rename_i kb j
      cases hb
      refine red (eqGuard_scalar op ty x y _ _ rfl (by simp)) ?_
      split at hk
      · exact shiftK_sound h hk
      · exact shiftK_sound h hk
      · rename_i hn1 hn2
        split at hk
        · rename_i hke
          rw [← kEq_eq hke]
          exact intBinK_sound h ⟨fun e => hn1 e, fun e => hn2 e⟩ hk
        · exact hk.elim
    · exact hk.elim
  · rename_i s
    cases ha
    split at hk
    · cases hb
      exact red (eqGuard_scalar op ty x y _ _ rfl (by simp)) (strBinK_sound h hk)
    · exact hk.elim
  · rename_i hn1 hn2
    split at hk
    · obtain ⟨te, h1, h2⟩ := tyK_elim hk
      obtain ⟨r, hr1, hr2, hr3, hr4⟩ := eqvK_sound (w := w) hT h1 ha hb h2
      exact red (hr4 _ _ _) (OutV.of h hr1 hr2 (.bool r))
    · obtain ⟨te, h1, h2⟩ := tyK_elim hk
      obtain ⟨r, hr1, hr2, hr3, hr4⟩ := eqvK_sound (w := w) hT h1 ha hb h2
      exact red (hr4 _ _ _) (OutV.of h hr1 hr3 (.bool _))
    · exact hk.elim
end
end Go.Abs
