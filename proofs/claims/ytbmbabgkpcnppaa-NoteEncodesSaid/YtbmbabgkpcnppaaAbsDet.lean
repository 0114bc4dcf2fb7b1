/- Operations that only read yield one value; operations look at their operands alone. -/
import Derived.Test.YtbmbabgkpcnppaaAbsSem
set_option linter.all false
namespace Go.Abs
open Go

/-- a continuation form that hands on one value -/
def Det {α : Type} (F : (α → Prop) → Prop) : Prop := ∀ k, F k → ∃ v, k v ∧ ∀ k' : α → Prop, k' v → F k'
theorem det_pure {α : Type} (v : α) : Det (fun k : α → Prop => k v) := fun _ h => ⟨v, h, fun _ h => h⟩
theorem det_false {α : Type} : Det (fun _ : α → Prop => False) := fun _ h => h.elim
theorem det_bind {α β : Type} {F : (α → Prop) → Prop} {G : α → (β → Prop) → Prop} (hF : Det F) (hG : ∀ a, Det (G a)) : Det (fun k => F fun a => G a k) := by
  intro k h
  obtain ⟨a, h1, h2⟩ := hF _ h
  obtain ⟨b, h3, h4⟩ := hG a _ h1
  exact ⟨b, h3, fun k' hk => h2 _ (h4 k' hk)⟩
theorem det_map {α β : Type} {F : (α → Prop) → Prop} (f : α → β) (hF : Det F) : Det (fun k : β → Prop => F fun a => k (f a)) := det_bind hF fun a => det_pure (f a)

section
variable {α : Type} {tt : Tab} {t : List Value} {H : AHeap}
theorem det_getK (l : List Value) (i : Nat) : Det (getK l i) := fun k h => by rw [getK_eq] at h; exact ⟨_, h, fun k' h' => by rw [getK_eq]; exact h'⟩
theorem det_evalK (x : Operand) : Det (evalK t x) := by
  cases x with
  | tmp i => exact det_getK t i
  | const v =>
    intro k h
    simp only [evalK] at h
    cases hs : simpleV v with
    | true => rw [hs] at h; exact ⟨v, h, fun k' h' => by simp only [evalK, hs]; exact h'⟩
    | false => rw [hs] at h; exact h.elim
  | func f => exact det_pure _
  | global g => exact det_false
theorem det_evalsK : ∀ xs : List Operand, Det (evalsK t xs)
  | [] => det_pure _
  | x :: xs => by
    show Det (fun k => evalK t x fun v => evalsK t xs fun vs => k (v :: vs))
    exact det_bind (det_evalK x) fun v => det_map _ (det_evalsK xs)
theorem det_evalPK : ∀ xs : List (Nat × Operand), Det (evalPK t xs)
  | [] => det_pure _
  | (i, x) :: xs => by
    show Det (fun k => evalK t x fun v => evalPK t xs fun vs => k ((i, v) :: vs))
    exact det_bind (det_evalK x) fun v => det_map _ (det_evalPK xs)
theorem det_optK (x : Option Operand) : Det (optK t x) := by
  cases x with
  | none => exact det_pure _
  | some x =>
    show Det (fun k => evalK t x fun v => k (some v))
    exact det_map _ (det_evalK x)
theorem det_tyK : ∀ (tt : Tab) (i : Nat), Det (tyK tt i)
  | [], _ => det_false
  | e :: _, 0 => det_pure e
  | _ :: es, i + 1 => det_tyK es i
theorem det_nthK {β : Type} : ∀ (l : List β) (i : Nat), Det (nthK l i)
  | [], _ => det_false
  | x :: _, 0 => det_pure x
  | _ :: xs, i + 1 => det_nthK xs i
theorem det_reqK (b : Bool) {F : (α → Prop) → Prop} (hF : Det F) : Det (fun k => reqK b (F k)) := by
  intro k h
  obtain ⟨hb, h1⟩ := reqK_elim h
  obtain ⟨v, h2, h3⟩ := hF k h1
  exact ⟨v, h2, fun k' h' => reqK_of hb (h3 k' h')⟩
theorem det_okK (d : TD) {F : (α → Prop) → Prop} (hF : Det F) : Det (fun k => okK d (F k)) := by
  unfold okK
  cases d <;> first | exact det_false | exact hF
theorem det_bothK (a b : Bool) {F : (α → Prop) → Prop} (hF : Det F) : Det (fun k => bothK a b (F k)) := by
  unfold bothK
  cases a <;> cases b <;> first | exact det_false | exact hF
theorem det_intK (kk : IntKind) (e : Int) {G : Int → (α → Prop) → Prop} (hG : ∀ n, Det (G n)) : Det (fun k => intK kk e fun n => G n k) := by
  intro k h
  obtain ⟨v, h2, h3⟩ := hG _ k (intK_elim h)
  exact ⟨v, h2, fun k' h' => intK_of (h3 k' h')⟩
theorem det_pickK (c : Bool) (a b : Value) {G : Value → (α → Prop) → Prop} (hG : ∀ n, Det (G n)) : Det (fun k => pickK c a b fun v => G v k) := by
  intro k h
  obtain ⟨v, h2, h3⟩ := hG _ k (pickK_elim h)
  exact ⟨v, h2, fun k' h' => pickK_of (h3 k' h')⟩
theorem det_loadK (H : AHeap) (i off : Nat) {G : Value → (α → Prop) → Prop} (hG : ∀ n, Det (G n)) : Det (fun k => loadK H i off fun v => G v k) := by
  intro k h
  obtain ⟨c, own, sz, v, h1, h2, h3⟩ := loadK_elim h
  obtain ⟨u, h4, h5⟩ := hG _ k h3
  exact ⟨u, h4, fun k' h' => loadK_of (v := v) (by simp [AHeap.cell, h1, h2]) (h5 k' h')⟩
theorem det_loadsK (H : AHeap) (i off n : Nat) {G : List Value → (α → Prop) → Prop} (hG : ∀ n, Det (G n)) : Det (fun k => loadsK H i off n fun v => G v k) := by
  intro k h
  obtain ⟨c, own, sz, h1, h2, h3⟩ := loadsK_elim h
  obtain ⟨u, h4, h5⟩ := hG _ k h3
  exact ⟨u, h4, fun k' h' => loadsK_of h1 h2 (h5 k' h')⟩
theorem det_cellsK (v : Value) : Det (cellsK v) := by
  unfold cellsK
  cases v <;> first | exact det_pure _ | exact det_false | skip
  dsimp only
  split <;> first | exact det_pure _ | exact det_false
theorem det_setK : ∀ (l : List Value) (i : Nat) (v : Value), Det (setK l i v)
  | l, i, v => fun k h => by rw [setK_eq] at h; exact ⟨_, h, fun k' h' => by rw [setK_eq]; exact h'⟩
theorem det_putsK : ∀ (vs cs : List Value) (off : Nat), Det (putsK cs off vs)
  | [], cs, off => det_pure _
  | v :: vs, cs, off => by
    show Det (fun k => setK cs off v fun cs' => putsK cs' (off + 1) vs k)
    exact det_bind (det_setK cs off v) fun cs' => det_putsK vs cs' (off + 1)
theorem det_fillSK (fs : List (Nat × TypeId)) : ∀ (ps : List (Nat × Value)) (cs : List Value), Det (fillSK tt fs ps cs)
  | [], cs => det_pure _
  | (i, v) :: ps, cs => by
    show Det (fun k => nthK fs i fun f => tyK tt f.2 fun te => cellsK v fun vs =>
      bothK (Nat.beq vs.length te.size) (Nat.ble (f.1 + vs.length) cs.length) (okK te.d (putsK cs f.1 vs fun cs' => fillSK tt fs ps cs' k)))
    exact det_bind (det_nthK fs i) fun f => det_bind (det_tyK tt f.2) fun te => det_bind (det_cellsK v) fun vs => det_bothK _ _ (det_okK _ (det_bind (det_putsK vs cs f.1) fun cs' => det_fillSK fs ps cs'))
theorem det_fillAK (size : Nat) : ∀ (ps : List (Nat × Value)) (cs : List Value), Det (fillAK size ps cs)
  | [], cs => det_pure _
  | (i, v) :: ps, cs => by
    show Det (fun k => cellsK v fun vs =>
      bothK (Nat.beq vs.length size) (Nat.ble (i * size + vs.length) cs.length) (putsK cs (i * size) vs fun cs' => fillAK size ps cs' k))
    exact det_bind (det_cellsK v) fun vs => det_bothK _ _ (det_bind (det_putsK vs cs (i * size)) fun cs' => det_fillAK size ps cs')
theorem det_intBinK (op : BinOp) (kk : IntKind) (x y : Int) : Det (intBinK op kk x y) := by
  unfold intBinK
  cases op <;> dsimp only <;> first
    | exact det_pure _
    | exact det_false
    | exact det_intK _ _ fun n => det_pure _
    | exact det_reqK _ (det_intK _ _ fun n => det_pure _)
    | exact det_reqK _ (det_pure _)
theorem det_shiftK (op : BinOp) (kk : IntKind) (x y : Int) : Det (shiftK op kk x y) := by
  unfold shiftK
  cases op <;> dsimp only <;> first
    | exact det_false
    | exact det_reqK _ (det_intK _ _ fun n => det_pure _)
    | exact det_reqK _ (det_pure _)
theorem det_strBinK (op : BinOp) (s u : ByteArray) : Det (strBinK op s u) := by
  unfold strBinK
  cases op <;> dsimp only <;> first
    | exact det_pure _
    | exact det_false
    | exact det_reqK _ (det_pure _)
theorem det_cellsEqK (tt : Tab) : ∀ (fs : List (Nat × TypeId)) (xs ys : List Value), Det (cellsEqK tt fs xs ys)
  | [], [], [] => det_pure true
  | [], _ :: _, _ => det_false
  | [], [], _ :: _ => det_false
  | _ :: _, [], _ => det_false
  | _ :: _, _ :: _, [] => det_false
  | f :: fs, x :: xs, y :: ys => by
    have ih := det_cellsEqK tt fs xs ys
    show Det (fun K => tyK tt f.2 fun te => _)
    refine det_bind (det_tyK tt f.2) fun te => ?_
    split
    · split
      · split
        · split
          · exact det_map _ ih
          · exact det_false
        · exact det_false
      · exact det_false
    · split
      · split
        · exact det_map _ ih
        · exact det_false
      · exact det_false
    · split
      · split
        · exact det_map _ ih
        · exact det_false
      · exact det_false
    · exact det_false
theorem det_eqvK (tt : Tab) (te : TE) (a b : Value) : Det (eqvK tt te a b) := by
  unfold eqvK
  split <;> first | exact det_false | skip
  case h_7 =>
    split
    · split
      · exact det_cellsEqK _ _ _ _
      · exact det_false
    · exact det_false
  all_goals (split <;> first | exact det_false | exact det_pure _ | skip)
  all_goals (split <;> first | exact det_false | exact det_pure _)
theorem det_binK (op : BinOp) (ty : TypeId) (a b : Value) : Det (binK tt op ty a b) := by
  unfold binK
  split
  · split
    · split
      · exact det_shiftK _ _ _ _
      · exact det_shiftK _ _ _ _
      · split
        · exact det_intBinK _ _ _ _
        · exact det_false
    · exact det_false
  · split
    · exact det_strBinK _ _ _
    · exact det_false
  · split
    · exact det_bind (det_tyK tt ty) fun te => det_map _ (det_eqvK _ _ _ _)
    · exact det_bind (det_tyK tt ty) fun te => det_map _ (det_eqvK _ _ _ _)
    · exact det_false
theorem det_readK (te : TE) (i off : Nat) : Det (readK te H i off) := by
  unfold readK
  split
  · exact det_loadsK H i off te.size fun vs => det_pure _
  · exact det_loadK H i off fun v => det_pure v
theorem det_partK (te : TE) (cs : List Value) (off : Nat) : Det (partK te cs off) := by
  unfold partK
  split
  · exact det_reqK _ (det_pure _)
  · exact det_nthK _ _
theorem det_lowK (o : Option Value) : Det (lowK o) := by
  unfold lowK; split <;> first | exact det_pure _ | exact det_false
theorem det_highK (o : Option Value) (d : Nat) : Det (highK o d) := by
  unfold highK; split <;> first | exact det_pure _ | exact det_false
theorem det_maxesK : ∀ (m : Int) (vs : List Value), Det (maxesK m vs)
  | m, [] => det_pure _
  | m, v :: vs => by cases v <;> first | exact det_false | exact det_maxesK _ vs
theorem det_minsK : ∀ (m : Int) (vs : List Value), Det (minsK m vs)
  | m, [] => det_pure _
  | m, v :: vs => by cases v <;> first | exact det_false | exact det_minsK _ vs

/-- hands on one value, and the heap as it was -/
def DetH (H : AHeap) (F : (Value → AHeap → Prop) → Prop) : Prop := ∀ k, F k → ∃ v, k v H ∧ ∀ k' : Value → AHeap → Prop, k' v H → F k'
theorem deth_pure (v : Value) : DetH H (fun k => k v H) := fun _ h => ⟨v, h, fun _ h => h⟩
theorem deth_false : DetH H (fun _ => False) := fun _ h => h.elim
theorem deth_bind {F : (α → Prop) → Prop} {G : α → (Value → AHeap → Prop) → Prop} (hF : Det F) (hG : ∀ a, DetH H (G a)) : DetH H (fun k => F fun a => G a k) := by
  intro k h
  obtain ⟨a, h1, h2⟩ := hF _ h
  obtain ⟨b, h3, h4⟩ := hG a _ h1
  exact ⟨b, h3, fun k' hk => h2 _ (h4 k' hk)⟩
theorem deth_of {F : (Value → Prop) → Prop} (hF : Det F) : DetH H (fun k => F fun v => k v H) := deth_bind hF fun a => deth_pure a
theorem deth_reqK (b : Bool) {F : (Value → AHeap → Prop) → Prop} (hF : DetH H F) : DetH H (fun k => reqK b (F k)) := by
  intro k h
  obtain ⟨hb, h1⟩ := reqK_elim h
  obtain ⟨v, h2, h3⟩ := hF k h1
  exact ⟨v, h2, fun k' h' => reqK_of hb (h3 k' h')⟩
theorem deth_okK (d : TD) {F : (Value → AHeap → Prop) → Prop} (hF : DetH H F) : DetH H (fun k => okK d (F k)) := by
  unfold okK
  cases d <;> first | exact deth_false | exact hF
theorem deth_bothK (a b : Bool) {F : (Value → AHeap → Prop) → Prop} (hF : DetH H F) : DetH H (fun k => bothK a b (F k)) := by
  unfold bothK
  cases a <;> cases b <;> first | exact deth_false | exact hF

theorem deth_sliceK (ty : TypeId) (x : Value) (lo hi : Option Value) : DetH H (sliceK tt ty x lo hi H) := by
  unfold sliceK
  refine deth_bind (det_tyK tt ty) fun te => ?_
  split
  · split
    · exact deth_bind (det_lowK _) fun l => deth_bind (det_highK _ _) fun h => deth_reqK _ (deth_pure _)
    · exact deth_false
  · refine deth_bind (det_tyK tt _) fun ee => ?_
    split
    · exact deth_bind (det_lowK _) fun l => deth_bind (det_highK _ _) fun h => deth_reqK _ (deth_okK _ (deth_pure _))
    · exact deth_bind (det_lowK _) fun l => deth_bind (det_highK _ _) fun h => deth_reqK _ (deth_okK _ (deth_pure _))
    · exact deth_false
  · exact deth_false
theorem det_lenK (ty : TypeId) (x : Value) : Det (lenK tt ty x H) := by
  unfold lenK
  refine det_bind (det_tyK tt ty) fun te => ?_
  split
  · split <;> first | exact det_pure _ | exact det_false
  · split <;> first | exact det_pure _ | exact det_false
  · exact det_pure _
  · split
    · exact det_pure _
    · split <;> first | exact det_pure _ | exact det_false
    · exact det_false
  · exact det_false

/-- the operations that make and change no memory -/
def intT : Tab → Nat → Bool
  | [], _ => false
  | e :: _, 0 => (match e.d with | .int _ => true | _ => false)
  | _ :: es, t + 1 => intT es t
theorem tyK_intT : ∀ {tt : Tab} {t : Nat}, intT tt t = true → ∃ e kd, e.d = .int kd ∧ ∀ k, tyK tt t k = k e
  | [], _, h => by simp [intT] at h
  | e :: _, 0, h => by
    simp only [intT] at h
    split at h
    · rename_i kd hd; exact ⟨e, kd, hd, fun _ => rfl⟩
    · exact absurd h (by simp)
  | _ :: es, t + 1, h => tyK_intT (tt := es) (t := t) h
def quietOp (tt : Tab) : Op → Bool
  | .convert _ dst _ => intT tt dst
  | .move _ | .assign _ | .pick _ _ _ | .build _ _ | .load _ _ | .nilCheck _ | .binOp _ _ _ _ _ | .unOp _ _ _ | .makeInterface _ _ | .makeFunc _ _ _
  | .slice _ _ _ _ none | .fieldAddr _ _ _ | .field _ _ _ | .indexAddr _ _ _ | .index _ _ _ | .typeAssert _ _ _ _ | .extract _ _ => true
  | .call c => (match c.callee with | .builtin .len | .builtin .max | .builtin .min => true | _ => false)
  | _ => false

theorem primK_det {op : Op} (hq : quietOp tt op = true) : DetH H (primK tt op t H) := by
  unfold primK
  cases op <;> simp only [quietOp] at hq <;> try (exact absurd hq (by decide))
  case move x => exact deth_of (det_evalK x)
  case assign x => exact deth_of (det_evalK x)
  case pick c a b =>
    refine deth_bind (det_evalK c) fun vc => deth_bind (det_evalK a) fun va => deth_bind (det_evalK b) fun vb => ?_
    split
    · exact deth_of (det_pickK _ _ _ fun v => det_pure v)
    · exact deth_false
  case build ty ps =>
    refine deth_bind (det_evalPK _) fun vs => deth_bind (det_tyK tt ty) fun te => ?_
    split
    · exact deth_bind (det_fillSK _ _ _) fun cs => deth_pure _
    · exact deth_bind (det_tyK tt _) fun ee => deth_okK _ (deth_bind (det_fillAK _ _ _) fun cs => deth_pure _)
    · exact deth_false
  case load ty x =>
    refine deth_bind (det_evalK x) fun v => ?_
    split
    · exact deth_bind (det_tyK tt ty) fun te => deth_okK _ (deth_of (det_readK _ _ _))
    · exact deth_false
  case convert src dst x =>
    obtain ⟨e, kd, he, hk⟩ := tyK_intT hq
    refine deth_bind (det_evalK x) fun v => ?_
    have e1 : (fun k : Value → AHeap → Prop => convK tt src dst v H k) = fun k => tyK tt src fun ts => (match ts.d with | .int _ => (match v with | .int _ n => intK kd n fun m => k (.int kd m) H | _ => False) | _ => False) := by
      funext k
      unfold convK
      simp only [hk, he]
      congr 1
    show DetH H (fun k => convK tt src dst v H k)
    rw [e1]
    refine deth_bind (det_tyK tt src) fun ts => ?_
    split
    · split
      · exact deth_of (det_intK _ _ fun m => det_pure _)
      · exact deth_false
    · exact deth_false
  case nilCheck x =>
    refine deth_bind (det_evalK x) fun v => ?_
    split <;> first | exact deth_pure _ | exact deth_false | skip
    split
    · exact deth_bind (det_tyK tt _) fun te => deth_okK _ (deth_bothK _ _ (deth_pure _))
    · exact deth_false
  case binOp op ty x y yt =>
    exact deth_bind (det_evalK x) fun a => deth_bind (det_evalK y) fun b => deth_of (det_binK op ty a b)
  case unOp op ty x =>
    refine deth_bind (det_evalK x) fun v => ?_
    split
    · split
      · exact deth_of (det_intK _ _ fun m => det_pure _)
      · exact deth_false
    · split <;> first | exact deth_pure _ | exact deth_false
    · split <;> first | exact deth_pure _ | exact deth_false
    · exact deth_false
  case makeInterface ty x =>
    exact deth_bind (det_evalK x) fun v => deth_bind (det_tyK tt ty) fun te => deth_okK _ (deth_bothK _ _ (deth_pure _))
  case makeFunc fn fs cs =>
    refine deth_bind (det_evalsK _) fun a => deth_bind (det_evalsK _) fun b => ?_
    split <;> first | exact deth_pure _ | exact deth_false
  case slice ty x lo hi mx =>
    cases mx with
    | some m => exact absurd hq (by simp)
    | none => exact deth_bind (det_evalK x) fun v => deth_bind (det_optK lo) fun l => deth_bind (det_optK hi) fun h => deth_sliceK _ _ _ _
  case fieldAddr ty x f =>
    refine deth_bind (det_evalK x) fun v => ?_
    split
    · refine deth_bind (det_tyK tt ty) fun te => ?_
      split
      · refine deth_bind (det_nthK _ _) fun fd => deth_bind (det_tyK tt _) fun fe => deth_okK _ ?_
        split <;> first | exact deth_pure _ | exact deth_false
      · exact deth_false
    · exact deth_false
  case field ty x f =>
    refine deth_bind (det_evalK x) fun v => ?_
    split
    · refine deth_bind (det_tyK tt ty) fun te => ?_
      split
      · exact deth_bind (det_nthK _ _) fun fd => deth_bind (det_tyK tt _) fun fe => deth_okK _ (deth_of (det_partK _ _ _))
      · exact deth_false
    · exact deth_false
  case indexAddr ty x ix =>
    refine deth_bind (det_evalK x) fun v => deth_bind (det_evalK ix) fun vi => ?_
    split
    · refine deth_bind (det_tyK tt ty) fun te => ?_
      split
      · refine deth_bind (det_tyK tt _) fun ee => deth_okK _ ?_
        split
        · exact deth_reqK _ (deth_pure _)
        · exact deth_false
      · refine deth_bind (det_tyK tt _) fun ee => deth_okK _ ?_
        split
        · exact deth_reqK _ (deth_pure _)
        · exact deth_false
      · exact deth_false
    · exact deth_false
  case index ty x ix =>
    refine deth_bind (det_evalK x) fun v => deth_bind (det_evalK ix) fun vi => ?_
    split
    · refine deth_bind (det_tyK tt ty) fun te => ?_
      split
      · split
        · exact deth_reqK _ (deth_pure _)
        · exact deth_false
      · refine deth_bind (det_tyK tt _) fun ee => deth_okK _ ?_
        split
        · exact deth_reqK _ (deth_of (det_partK _ _ _))
        · exact deth_false
      · exact deth_false
    · exact deth_false
  case typeAssert x xt ty ok =>
    refine deth_bind (det_evalK x) fun v => deth_bind (det_tyK tt ty) fun te => deth_okK _ (deth_bothK _ _ ?_)
    split
    · split
      · split <;> exact deth_pure _
      · split <;> first | exact deth_pure _ | exact deth_false
    · split <;> first | exact deth_pure _ | exact deth_false
    · exact deth_false
  case extract x ix =>
    refine deth_bind (det_evalK x) fun v => ?_
    split
    · exact deth_of (det_nthK _ _)
    · exact deth_false
  case call c =>
    obtain ⟨callee, args, argTypes⟩ := c
    cases callee with
    | value f => simp at hq
    | invoke r m => simp at hq
    | builtin b =>
      dsimp only at hq ⊢
      refine deth_bind (det_evalsK _) fun vs => ?_
      cases b <;> dsimp only at hq ⊢ <;> try (exact absurd hq (by decide))
      · split
        · exact deth_bind (det_nthK _ _) fun ty => deth_of (det_lenK _ _)
        · exact deth_false
      · split
        · exact deth_bind (det_maxesK _ _) fun m => deth_pure _
        · exact deth_false
      · split
        · exact deth_bind (det_minsK _ _) fun m => deth_pure _
        · exact deth_false
end
end Go.Abs
