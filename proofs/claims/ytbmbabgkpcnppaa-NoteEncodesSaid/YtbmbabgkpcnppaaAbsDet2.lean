/- Every operation that calls nothing yields one value and one heap; it looks at its operands alone. -/
import Derived.Test.YtbmbabgkpcnppaaAbsDet
set_option linter.all false
namespace Go.Abs
open Go

def DetV (F : (Value → AHeap → Prop) → Prop) : Prop := ∀ k, F k → ∃ v H', k v H' ∧ ∀ k' : Value → AHeap → Prop, k' v H' → F k'
section
variable {α : Type} {tt : Tab} {t : List Value} {H : AHeap}
theorem detv_of {F : (Value → AHeap → Prop) → Prop} (h : DetH H F) : DetV F := fun k hk => let ⟨v, h1, h2⟩ := h k hk; ⟨v, H, h1, h2⟩
theorem detv_pure (v : Value) (H : AHeap) : DetV (fun k => k v H) := fun _ h => ⟨v, H, h, fun _ h => h⟩
theorem detv_false : DetV (fun _ => False) := fun _ h => h.elim
theorem detv_bind {F : (α → Prop) → Prop} {G : α → (Value → AHeap → Prop) → Prop} (hF : Det F) (hG : ∀ a, DetV (G a)) : DetV (fun k => F fun a => G a k) := by
  intro k h
  obtain ⟨a, h1, h2⟩ := hF _ h
  obtain ⟨b, H', h3, h4⟩ := hG a _ h1
  exact ⟨b, H', h3, fun k' hk => h2 _ (h4 k' hk)⟩
theorem detv_reqK (b : Bool) {F : (Value → AHeap → Prop) → Prop} (hF : DetV F) : DetV (fun k => reqK b (F k)) := by
  intro k h
  obtain ⟨hb, h1⟩ := reqK_elim h
  obtain ⟨v, H', h2, h3⟩ := hF k h1
  exact ⟨v, H', h2, fun k' h' => reqK_of hb (h3 k' h')⟩
theorem detv_condK (b : Bool) {F G : (Value → AHeap → Prop) → Prop} (hF : DetV F) (hG : DetV G) : DetV (fun k => condK b (F k) (G k)) := by
  intro k h
  rcases condK_elim h with ⟨hb, h1⟩ | ⟨hb, h1⟩
  · obtain ⟨v, H', h2, h3⟩ := hF k h1
    exact ⟨v, H', h2, fun k' h' => condK_true hb (h3 k' h')⟩
  · obtain ⟨v, H', h2, h3⟩ := hG k h1
    exact ⟨v, H', h2, fun k' h' => condK_false hb (h3 k' h')⟩
theorem detv_okK (d : TD) {F : (Value → AHeap → Prop) → Prop} (hF : DetV F) : DetV (fun k => okK d (F k)) := by
  unfold okK
  cases d <;> first | exact detv_false | exact hF
theorem detv_bothK (a b : Bool) {F : (Value → AHeap → Prop) → Prop} (hF : DetV F) : DetV (fun k => bothK a b (F k)) := by
  unfold bothK
  cases a <;> cases b <;> first | exact detv_false | exact hF
theorem detv_ownK (i size upto : Nat) {F : (Value → AHeap → Prop) → Prop} (hF : DetV F) : DetV (fun k => ownK H i size upto (F k)) := by
  intro k h
  obtain ⟨c, h1, h2, h3⟩ := ownK_elim h
  obtain ⟨v, H', h4, h5⟩ := hF k h3
  exact ⟨v, H', h4, fun k' h' => ownK_of h1 h2 (h5 k' h')⟩
theorem detv_loadsK (i off n : Nat) {G : List Value → (Value → AHeap → Prop) → Prop} (hG : ∀ n, DetV (G n)) : DetV (fun k => loadsK H i off n fun v => G v k) := by
  intro k h
  obtain ⟨c, own, sz, h1, h2, h3⟩ := loadsK_elim h
  obtain ⟨u, H', h4, h5⟩ := hG _ k h3
  exact ⟨u, H', h4, fun k' h' => loadsK_of h1 h2 (h5 k' h')⟩
theorem detv_storeK (i off : Nat) (u : Value) {G : AHeap → (Value → AHeap → Prop) → Prop} (hG : ∀ n, DetV (G n)) : DetV (fun k => storeK H i off u fun v => G v k) := by
  intro k h
  obtain ⟨c, sz, h1, h2, h3⟩ := storeK_elim h
  obtain ⟨u, H', h4, h5⟩ := hG _ k h3
  exact ⟨u, H', h4, fun k' h' => storeK_of h1 h2 (h5 k' h')⟩
theorem detv_storesK (i off : Nat) (us : List Value) {G : AHeap → (Value → AHeap → Prop) → Prop} (hG : ∀ n, DetV (G n)) : DetV (fun k => storesK H i off us fun v => G v k) := by
  intro k h
  obtain ⟨c, sz, h1, h2, h3⟩ := storesK_elim h
  obtain ⟨u, H', h4, h5⟩ := hG _ k h3
  exact ⟨u, H', h4, fun k' h' => storesK_of h1 h2 (h5 k' h')⟩
theorem detv_writeK (te : TE) (i off : Nat) (u : Value) {G : AHeap → (Value → AHeap → Prop) → Prop} (hG : ∀ n, DetV (G n)) : DetV (fun k => writeK te H i off u fun v => G v k) := by
  unfold writeK
  cases u <;> dsimp only <;> first
    | exact detv_false
    | exact detv_bothK _ _ (detv_reqK _ (detv_storesK _ _ _ hG))
    | exact detv_bothK _ _ (detv_storeK _ _ _ hG)
theorem detv_srcK (size : Nat) (x : Value) {G : Nat → List Value → (Value → AHeap → Prop) → Prop} (hG : ∀ n l, DetV (G n l)) : DetV (fun k => srcK H size x fun n l => G n l k) := by
  unfold srcK
  split
  · exact detv_loadsK _ _ _ fun l => hG _ l
  · exact hG _ _
  · split
    · exact hG _ _
    · exact detv_false
  · exact detv_false
theorem detv_appTailK (ee : TE) (n : Nat) (new : List Value) (s : Value) : DetV (appTailK ee n new s H) := by
  unfold appTailK
  split
  · exact detv_condK _ (detv_pure _ _) (detv_reqK _ (detv_pure _ _))
  · exact detv_ownK _ _ _ (detv_loadsK _ _ _ fun old => detv_reqK _ (detv_pure _ _))
  · exact detv_false
theorem detv_appendK (ty xty : TypeId) (s x : Value) : DetV (appendK tt ty xty s x H) := by
  unfold appendK
  refine detv_bind (det_tyK tt xty) fun tx => ?_
  split
  · refine detv_bind (det_tyK tt ty) fun te => ?_
    split
    · refine detv_bind (det_tyK tt _) fun ee => detv_okK _ ?_
      split
      · exact detv_reqK _ (detv_appTailK _ _ _ _)
      · exact detv_false
    · exact detv_false
  · refine detv_bothK _ _ (detv_bind (det_tyK tt ty) fun te => ?_)
    split
    · exact detv_bind (det_tyK tt _) fun ee => detv_okK _ (detv_srcK _ _ fun n new => detv_appTailK _ _ _ _)
    · exact detv_false
theorem detv_copyK (ty : TypeId) (s x : Value) : DetV (copyK tt ty s x H) := by
  unfold copyK
  refine detv_bind (det_tyK tt ty) fun te => ?_
  split
  · refine detv_bind (det_tyK tt _) fun ee => detv_okK _ (detv_srcK _ _ fun n new => ?_)
    split
    · exact detv_pure _ _
    · exact detv_storesK _ _ _ fun H' => detv_pure _ _
    · exact detv_false
  · exact detv_false
theorem detv_convK (src dst : TypeId) (x : Value) : DetV (convK tt src dst x H) := by
  unfold convK
  refine detv_bind (det_tyK tt src) fun ts => detv_bind (det_tyK tt dst) fun td => ?_
  split
  · split
    · split
      · exact detv_of (deth_of (det_intK _ _ fun m => det_pure _))
      · exact detv_false
    · exact detv_false
  · split
    · split
      · exact detv_pure _ _
      · exact detv_false
    · refine detv_bind (det_tyK tt _) fun ee => ?_
      split
      · split
        · exact detv_pure _ _
        · exact detv_loadsK _ _ _ fun vs => detv_reqK _ (detv_pure _ _)
        · exact detv_false
      · exact detv_false
    · exact detv_false
  · split
    · refine detv_bind (det_tyK tt _) fun ee => ?_
      split
      · split
        · exact detv_reqK _ (detv_pure _ _)
        · exact detv_false
      · exact detv_false
    · exact detv_false
  · exact detv_false

theorem detv_heapK (i : Nat) {G : AObj → (Value → AHeap → Prop) → Prop} (hG : ∀ o, DetV (G o)) : DetV (fun k => heapK H i fun o => G o k) := by
  intro k h
  obtain ⟨o, h1, h2⟩ := heapK_elim h
  obtain ⟨v, H', h3, h4⟩ := hG o k h2
  exact ⟨v, H', h3, fun k' h' => heapK_of h1 (h4 k' h')⟩
theorem detv_findK (d : TD) (key : Value) (es : List MapEntry) {G : Option (Nat × Value) → (Value → AHeap → Prop) → Prop} (hG : ∀ r, DetV (G r)) : DetV (fun k => findK d key es fun r => G r k) := by
  intro k h
  obtain ⟨td, r, h1, h2, h3⟩ := findK_elim h
  obtain ⟨v, H', h4, h5⟩ := hG r k h3
  exact ⟨v, H', h4, fun k' h' => findK_of h1 h2 (h5 k' h')⟩
theorem detv_bornK (es : List MapEntry) (n : Int) {G : Nat → (Value → AHeap → Prop) → Prop} (hG : ∀ r, DetV (G r)) : DetV (fun k => bornK es n fun r => G r k) := by
  intro k h
  obtain ⟨i, h1, h2⟩ := bornK_elim h
  obtain ⟨v, H', h4, h5⟩ := hG i k h2
  exact ⟨v, H', h4, fun k' h' => bornK_of h1 (h5 k' h')⟩
theorem detv_mapTyK (ty : TypeId) {G : TE → TE → (Value → AHeap → Prop) → Prop} (hG : ∀ a b, DetV (G a b)) : DetV (fun k => mapTyK tt ty fun a b => G a b k) := by
  unfold mapTyK
  refine detv_bind (det_tyK tt ty) fun te => ?_
  split
  · exact detv_bind (det_tyK tt _) fun ke => detv_bind (det_tyK tt _) fun ee => detv_okK _ (hG _ _)
  · exact detv_false
theorem detv_lookupK (ty : TypeId) (m key : Value) (ok : Bool) : DetV (lookupK tt ty m key ok H) := by
  unfold lookupK
  refine detv_mapTyK _ fun ke ee => ?_
  split
  · exact detv_findK _ _ _ fun r => detv_pure _ _
  · refine detv_heapK _ fun o => ?_
    split
    · refine detv_findK _ _ _ fun r => ?_
      split <;> exact detv_pure _ _
    · exact detv_false
  · exact detv_false
theorem detv_mapUpdK (ty : TypeId) (m key x : Value) {G : AHeap → (Value → AHeap → Prop) → Prop} (hG : ∀ n, DetV (G n)) : DetV (fun k => mapUpdK tt ty m key x H fun H' => G H' k) := by
  unfold mapUpdK
  refine detv_mapTyK _ fun ke ee => ?_
  split
  · refine detv_heapK _ fun o => ?_
    split
    · refine detv_findK _ _ _ fun r => ?_
      split <;> exact hG _
    · exact detv_false
  · exact detv_false
theorem detv_mapEntK (ty : TypeId) (m key : Value) : DetV (mapEntK tt ty m key H) := by
  unfold mapEntK
  refine detv_mapTyK _ fun ke ee => ?_
  split
  · refine detv_heapK _ fun o => ?_
    split
    · refine detv_findK _ _ _ fun r => ?_
      split <;> exact detv_pure _ _
    · exact detv_false
  · exact detv_false
theorem detv_entStK (m s x : Value) {G : AHeap → (Value → AHeap → Prop) → Prop} (hG : ∀ n, DetV (G n)) : DetV (fun k => entStK m s x H fun H' => G H' k) := by
  unfold entStK
  split
  · split
    · refine detv_heapK _ fun o => ?_
      split
      · exact detv_bornK _ _ fun i => hG _
      · exact detv_false
    · exact detv_false
  · exact detv_false
theorem detv_delK (ty : TypeId) (m key : Value) {G : AHeap → (Value → AHeap → Prop) → Prop} (hG : ∀ n, DetV (G n)) : DetV (fun k => delK tt ty m key H fun H' => G H' k) := by
  unfold delK
  refine detv_mapTyK _ fun ke ee => ?_
  split
  · exact detv_findK _ _ _ fun r => hG _
  · refine detv_heapK _ fun o => ?_
    split
    · refine detv_findK _ _ _ fun r => ?_
      split <;> exact hG _
    · exact detv_false
  · exact detv_false
theorem primK_detv (op : Op) : DetV (primK tt op t H) := by
  cases hq : quietOp tt op with
  | true => exact detv_of (primK_det hq)
  | false =>
    unfold primK
    cases op <;> first | exact detv_false | dsimp only | skip
    case alloc e => exact detv_bind (det_tyK tt e) fun te => detv_okK _ (detv_pure _ _)
    case box e x => exact detv_bind (det_evalK x) fun v => detv_bind (det_cellsK v) fun cs => detv_pure _ _
    case buildSlice ty n ps =>
      refine detv_bind (det_evalPK _) fun vs => detv_bind (det_tyK tt ty) fun te => ?_
      split
      · exact detv_bind (det_tyK tt _) fun ee => detv_okK _ (detv_bothK _ _ (detv_bind (det_fillAK _ _ _) fun cs => detv_pure _ _))
      · exact detv_false
    case store ty x y =>
      refine detv_bind (det_evalK x) fun v => detv_bind (det_evalK y) fun u => ?_
      split
      · exact detv_bind (det_tyK tt ty) fun te => detv_okK _ (detv_writeK _ _ _ _ fun H' => detv_pure _ _)
      · exact detv_false
    case convert src dst x => exact detv_bind (det_evalK x) fun v => detv_convK _ _ _
    case makeMap ty r =>
      cases r with
      | none => exact detv_pure _ _
      | some x =>
        dsimp only [optK]
        refine detv_bind (det_evalK x) fun v => ?_
        cases v <;> first | exact detv_false | exact detv_mapTyK _ fun _ _ => detv_pure _ _
    case lookup ty x ix ok => exact detv_bind (det_evalK x) fun m => detv_bind (det_evalK ix) fun key => detv_lookupK _ _ _ _
    case mapUpdate ty x ix y => exact detv_bind (det_evalK x) fun m => detv_bind (det_evalK ix) fun key => detv_bind (det_evalK y) fun v => detv_mapUpdK _ _ _ _ fun H' => detv_pure _ _
    case mapEntry ty x ix => exact detv_bind (det_evalK x) fun m => detv_bind (det_evalK ix) fun key => detv_mapEntK _ _ _
    case entryStore ty x st y => exact detv_bind (det_evalK x) fun m => detv_bind (det_evalK st) fun key => detv_bind (det_evalK y) fun v => detv_entStK _ _ _ fun H' => detv_pure _ _
    case makeSlice ty l c =>
      refine detv_bind (det_evalK l) fun vl => detv_bind (det_evalK c) fun vc => ?_
      split
      · split
        · refine detv_bind (det_tyK tt ty) fun te => ?_
          split
          · exact detv_bind (det_tyK tt _) fun ee => detv_okK _ (detv_reqK _ (detv_pure _ _))
          · exact detv_false
        · exact detv_false
      · exact detv_false
    case slice ty x lo hi mx =>
      cases mx with
      | some m => exact detv_false
      | none => simp [quietOp] at hq
    case call c =>
      obtain ⟨callee, args, argTypes⟩ := c
      cases callee with
      | value f => exact detv_false
      | invoke r m => exact detv_false
      | builtin b =>
        dsimp only at hq ⊢
        refine detv_bind (det_evalsK _) fun vs => ?_
        cases b <;> dsimp only [quietOp] at hq ⊢ <;> try (first | exact detv_false | exact absurd hq (by decide))
        · split
          · exact detv_bind (det_nthK _ _) fun ty => detv_bind (det_nthK _ _) fun xty => detv_appendK _ _ _ _
          · exact detv_false
        · split
          · exact detv_bind (det_nthK _ _) fun ty => detv_copyK _ _ _
          · exact detv_false
        · split
          · exact detv_bind (det_nthK _ _) fun ty => detv_delK _ _ _ fun H' => detv_pure _ _
          · exact detv_false
    all_goals (exact absurd hq (by simp [quietOp]))
theorem primK_mono {op : Op} {k k' : Value → AHeap → Prop} (h : primK tt op t H k) (hk : ∀ v H', k v H' → k' v H') : primK tt op t H k' :=
  let ⟨v, H', h1, h2⟩ := primK_detv op k h; h2 k' (hk v H' h1)

/-! what an operation looks at -/
def AgreeX (t t' : List Value) (x : Operand) : Prop := ∀ i, x = .tmp i → t'.getD i undef = t.getD i undef
theorem evalK_agree {t t' : List Value} {x : Operand} (h : AgreeX t t' x) : evalK t' x = evalK t x := by
  cases x with
  | tmp i => funext k; simp only [evalK, getK_eq, h i rfl]
  | _ => rfl
theorem evalsK_agree {t t' : List Value} : ∀ {xs : List Operand}, (∀ x ∈ xs, AgreeX t t' x) → evalsK t' xs = evalsK t xs
  | [], _ => rfl
  | x :: xs, h => by
    funext k
    show evalK t' x (fun v => evalsK t' xs fun vs => k (v :: vs)) = evalK t x (fun v => evalsK t xs fun vs => k (v :: vs))
    rw [evalK_agree (h x (by simp)), evalsK_agree (fun y hy => h y (by simp [hy]))]
theorem evalPK_agree {t t' : List Value} : ∀ {xs : List (Nat × Operand)}, (∀ x ∈ xs, AgreeX t t' x.2) → evalPK t' xs = evalPK t xs
  | [], _ => rfl
  | (i, x) :: xs, h => by
    funext k
    show evalK t' x (fun v => evalPK t' xs fun vs => k ((i, v) :: vs)) = evalK t x (fun v => evalPK t xs fun vs => k ((i, v) :: vs))
    rw [evalK_agree (h (i, x) (by simp)), evalPK_agree (fun y hy => h y (by simp [hy]))]
theorem optK_agree {t t' : List Value} {x : Option Operand} (h : ∀ y, x = some y → AgreeX t t' y) : optK t' x = optK t x := by
  cases x with
  | none => rfl
  | some x =>
    funext k
    show evalK t' x (fun v => k (some v)) = evalK t x (fun v => k (some v))
    rw [evalK_agree (h x rfl)]
theorem primK_agree {t' : List Value} {op : Op} (h : ∀ x ∈ op.operands, AgreeX t t' x) : primK tt op t' H = primK tt op t H := by
  funext k
  unfold primK
  cases op <;> simp only [Op.operands] at h <;> first | rfl | dsimp only | skip
  case move x => rw [evalK_agree (h _ (by simp))]
  case makeMap ty r => cases r with
    | none => rfl
    | some x => simp only [optK, evalK_agree (h x (by simp))]
  case lookup ty x ix ok => simp only [evalK_agree (h x (by simp)), evalK_agree (h ix (by simp))]
  case mapUpdate ty x ix y => simp only [evalK_agree (h x (by simp)), evalK_agree (h ix (by simp)), evalK_agree (h y (by simp))]
  case mapEntry ty x ix => simp only [evalK_agree (h x (by simp)), evalK_agree (h ix (by simp))]
  case entryStore ty x st y => simp only [evalK_agree (h x (by simp)), evalK_agree (h st (by simp)), evalK_agree (h y (by simp))]
  case assign x => rw [evalK_agree (h _ (by simp))]
  case pick c a b => simp only [evalK_agree (h c (by simp)), evalK_agree (h a (by simp)), evalK_agree (h b (by simp))]
  case box e x => rw [evalK_agree (h _ (by simp))]
  case build ty ps => rw [evalPK_agree fun x hx => h x.2 (by simp; exact ⟨x.1, by simpa using hx⟩)]
  case buildSlice ty n ps => rw [evalPK_agree fun x hx => h x.2 (by simp; exact ⟨x.1, by simpa using hx⟩)]
  case load ty x => rw [evalK_agree (h _ (by simp))]
  case store ty x y => simp only [evalK_agree (h x (by simp)), evalK_agree (h y (by simp))]
  case nilCheck x => rw [evalK_agree (h _ (by simp))]
  case binOp op ty x y yt => simp only [evalK_agree (h x (by simp)), evalK_agree (h y (by simp))]
  case unOp op ty x => rw [evalK_agree (h _ (by simp))]
  case convert src dst x => rw [evalK_agree (h _ (by simp))]
  case makeInterface ty x => rw [evalK_agree (h _ (by simp))]
  case makeFunc fn fs cs => simp only [evalsK_agree (xs := fs.toList) fun x hx => h x (by simp_all), evalsK_agree (xs := cs.toList) fun x hx => h x (by simp_all)]
  case makeSlice ty l c => simp only [evalK_agree (h l (by simp)), evalK_agree (h c (by simp))]
  case slice ty x lo hi mx =>
    cases mx with
    | some m => rfl
    | none => simp only [evalK_agree (h x (by simp)), optK_agree (x := lo) fun y hy => h y (by simp [hy]), optK_agree (x := hi) fun y hy => h y (by simp [hy])]
  case fieldAddr ty x f => rw [evalK_agree (h _ (by simp))]
  case field ty x f => rw [evalK_agree (h _ (by simp))]
  case indexAddr ty x ix => simp only [evalK_agree (h x (by simp)), evalK_agree (h ix (by simp))]
  case index ty x ix => simp only [evalK_agree (h x (by simp)), evalK_agree (h ix (by simp))]
  case typeAssert x xt ty ok => rw [evalK_agree (h _ (by simp))]
  case extract x ix => rw [evalK_agree (h _ (by simp))]
  case call c =>
    obtain ⟨callee, args, argTypes⟩ := c
    cases callee with
    | value f => rfl
    | invoke r m => rfl
    | builtin b => dsimp only; rw [evalsK_agree fun x hx => h x (by simp [Call.operands]; simpa using hx)]

/-- the quiet operations that look at no memory -/
def pureOp (tt : Tab) : Op → Bool
  | .load _ _ => false
  | .call c => (match c.callee with | .builtin .max | .builtin .min => true | _ => false)
  | op => quietOp tt op
theorem primK_pure {op : Op} (hp : pureOp tt op = true) {H' : AHeap} {k : Value → Prop} (h : primK tt op t H fun v _ => k v) : primK tt op t H' fun v _ => k v := by
  cases op
  case slice ty x lo hi mx =>
    cases mx with
    | some m => exact absurd hp (by simp [pureOp, quietOp])
    | none => exact h
  case call c =>
    obtain ⟨callee, args, argTypes⟩ := c
    cases callee with
    | value f => exact h.elim
    | invoke r m => exact h.elim
    | builtin b => cases b <;> first | exact h | exact absurd hp (by simp [pureOp])
  case convert src dst x =>
    obtain ⟨e, kd, he, hk⟩ := tyK_intT (show intT tt dst = true from hp)
    unfold primK convK at h ⊢
    simp only [hk, he] at h ⊢
    exact h
  all_goals first | exact h | exact absurd hp (by simp [pureOp, quietOp])
end
end Go.Abs
