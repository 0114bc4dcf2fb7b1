/- What code does, in continuation form, over abstract heaps. -/
import Derived.Test.YtbmbabgkpcnppaaAbsPrim7
set_option linter.all false
namespace Go.Abs
open Go

structure St where
  t : List Value
  d : List Deferred
  u : FrameMode
  H : AHeap

inductive AExit where
  | normal
  | exit (id : Nat)
  | ret
  | panic (ch : List PanicEntry)
inductive AEnd where
  | returned (v : Value)
  | panicked (ch : List PanicEntry)

/-- of what kind the frame is: a deferred call's; a round's of which loop; whose text -/
structure Cx where
  dfr : Bool
  ro : Option Nat
  fn : FuncId

abbrev EK := AExit → St → Prop
abbrev CK := AEnd → AHeap → Prop

structure Interp where
  call : Value → List Value → AHeap → CK → Prop
  inv : Value → String → List Value → AHeap → CK → Prop
  loop : Cx → Code → EK → St → Prop
  draw : Cx → Array Oper → EK → St → Prop

abbrev skipV : Value := .complex .f32 0 1

abbrev putSt (dst : Option Tmp) (v : Value) (s : St) (k : St → Prop) : Prop :=
  match s with
  | ⟨t, d, u, H⟩ => (match dst with
    | none => k ⟨t, d, u, H⟩
    | some i => setK t i v fun t' => k ⟨t', d, u, H⟩)

abbrev endK (s : St) (K : EK) (k : Value → St → Prop) : CK := fun e H' =>
  match s with
  | ⟨t, d, u, _⟩ => (match e with
    | .returned v => k v ⟨t, d, u, H'⟩
    | .panicked ch => K (.panic ch) ⟨t, d, u, H'⟩)

abbrev recoverK (cx : Cx) (s : St) (k : Value → St → Prop) : Prop :=
  match cx.ro with
  | some _ => False
  | none => (match cx.dfr with
    | false => k .nilIface s
    | true => (match s with
      | ⟨t, d, u, H⟩ => (match u with
        | .panicking ({ v, recovered := false, goexit := false } :: older) => k v ⟨t, d, .panicking ({ v, recovered := true } :: older), H⟩
        | .panicking ({ recovered := true, .. } :: _) => k .nilIface s
        | .returning => k .nilIface s
        | _ => False)))

def opK (tt : Tab) (I : Interp) (cx : Cx) (op : Op) (K : EK) (s : St) (k : Value → St → Prop) : Prop :=
  match s with
  | ⟨t, d, u, H⟩ => (match op with
    | .call c => (match c.callee with
      | .value f => evalK t f fun fv => evalsK t c.args.toList fun vs => I.call fv vs H (endK ⟨t, d, u, H⟩ K k)
      | .invoke r m => evalK t r fun rv => evalsK t c.args.toList fun vs => I.inv rv m vs H (endK ⟨t, d, u, H⟩ K k)
      | .builtin .recover => recoverK cx ⟨t, d, u, H⟩ k
      | .builtin _ => primK tt op t H fun v H' => k v ⟨t, d, u, H'⟩)
    | .defer c => (match cx.ro with
      | some _ => False
      | none => (match c.callee with
        | .value f => evalK t f fun fv => evalsK t c.args.toList fun vs => (match fv with
          | .func fn first cap => k undef ⟨t, { target := .fn fn cap, args := (first.toList ++ vs).toArray } :: d, u, H⟩
          | _ => False)
        | _ => False))
    | .panic x => evalK t x fun v => (match v with
      | .iface ty y => K (.panic [{ v := .iface ty y, recovered := false }]) ⟨t, d, u, H⟩
      | _ => False)
    | op => primK tt op t H fun v H' => k v ⟨t, d, u, H'⟩)

abbrev guardK (ops : List Oper) (o : Oper) (s : St) (run skip : Prop) : Prop :=
  match o.guard with
  | none => run
  | some (j, want) => nthK ops j fun oj => (match oj.dst with
    | none => False
    | some d => getK s.t d fun v => (match v with
      | .bool b => (match want with | true => condK b run skip | false => condK b skip run)
      | .complex .f32 0 1 => skip
      | _ => False))

def opG (tt : Tab) (I : Interp) (cx : Cx) (l : List Oper) (o : Oper) (K : EK) (s : St) (k : St → Prop) : Prop :=
  guardK l o s (opK tt I cx o.op K s fun v s' => putSt o.dst v s' k) (putSt o.dst skipV s k)
/- written by its recursor, so that the kernel and the elaborator unfold it alike -/
noncomputable def opsK (tt : Tab) (I : Interp) (cx : Cx) (ops : List Oper) (os : List Oper) : EK → St → Prop :=
  List.rec (motive := fun _ => EK → St → Prop) (fun K s => K .normal s)
    (fun o _ ih K s => opG tt I cx ops o K s fun s'' => ih K s'') os

abbrev jumpK (jump : Option Code) (K : EK) (s : St) : Prop :=
  match jump with
  | none => K .normal s
  | some .ret => K .ret s
  | some (.exit id) => K (.exit id) s
  | _ => False
/-- behind a range over a function: the loop is over -/
abbrev endLoopK (l : Nat) (K : EK) (s : St) : Prop :=
  match s with
  | ⟨t, d, u, H⟩ => heapK H l fun o => match o with
    | .loop r => (match r.state with
      | .busy => False
      | _ => jumpK r.pending K ⟨t, d, u, H.kill l⟩)
    | _ => False

abbrev rangeK (I : Interp) (cx : Cx) (fv : Value) (params : Array Tmp) (assign body : Code) (K : EK) (s : St) : Prop :=
  match s with
  | ⟨t, d, u, H⟩ => (match cx.ro with
    | none =>
      I.call fv [.func (.yield (H.size + 1)) #[] #[]]
        ((H.push (.deferred [])).push (.loop { state := .ready, pending := none, fn := cx.fn, tmps := t.toArray, params, assign, body, defers := H.size }))
        (endK ⟨t, { target := .collected H.size, args := #[] } :: d, u, H⟩ K fun _ s' => endLoopK (H.size + 1) K s')
    | some l0 => heapK H l0 fun o => (match o with
      | .loop r0 =>
        I.call fv [.func (.yield H.size) #[] #[]]
          (H.push (.loop { state := .ready, pending := none, fn := cx.fn, tmps := t.toArray, params, assign, body, defers := r0.defers }))
          (endK ⟨t, d, u, H⟩ K fun _ s' => endLoopK H.size K s')
      | _ => False))

theorem opsK_cons {tt : Tab} {I : Interp} {cx : Cx} {ops : List Oper} {o : Oper} {rest : List Oper} {K : EK} {s : St} : opsK tt I cx ops (o :: rest) K s = guardK ops o s
      (opK tt I cx o.op K s fun v s' => putSt o.dst v s' fun s'' => opsK tt I cx ops rest K s'')
      (putSt o.dst skipV s fun s'' => opsK tt I cx ops rest K s'') := rfl

noncomputable def den (tt : Tab) (I : Interp) (cx : Cx) (c : Code) : EK → St → Prop :=
  Code.rec (motive := fun _ => EK → St → Prop)
    (fun K s => K .normal s)
    (fun _ ops draw K s => match draw with | false => opsK tt I cx ops.toList ops.toList K s | true => I.draw cx ops K s)
    (fun _ _ iha ihb K s => iha (fun e s' => match e with | .normal => ihb K s' | e => K e s') s)
    (fun c _ _ ihx ihy K s => evalK s.t c fun v => (match v with | .bool b => condK b (ihx K s) (ihy K s) | _ => False))
    (fun id _ ih K s => ih (fun e s' => match e with | .exit id' => (match Nat.beq id' id with | true => K .normal s' | false => K (.exit id') s') | e => K e s') s)
    (fun c _ K s => I.loop cx c K s)
    (fun f params assign body _ _ K s => evalK s.t f fun fv => rangeK I cx fv params assign body K s)
    (fun id K s => K (.exit id) s)
    (fun _ ih K s => ih K s)
    (fun _ K s => K .normal s)
    (fun _ _ _ => False)
    (fun K s => K .ret s)
    (fun _ _ _ => False) c

/-! the end of a function -/
noncomputable def resK (tt : Tab) (t : List Value) (H : AHeap) (rs : List ResultVar) : (List Value → Prop) → Prop :=
  List.rec (motive := fun _ => (List Value → Prop) → Prop) (fun k => k [])
    (fun r _ ih k => match r with
      | .tmp i => getK t i fun v => ih fun vs => k (v :: vs)
      | .cell a ty => getK t a fun v => (match v with
        | .pointer (some ⟨i, off, _⟩) => tyK tt ty fun te => okK te.d (readK te H i off fun v => ih fun vs => k (v :: vs))
        | _ => False)) rs
theorem resK_tmp {tt : Tab} {t : List Value} {H : AHeap} {i : Nat} {rs : List ResultVar} {k : List Value → Prop} : resK tt t H (.tmp i :: rs) k = getK t i fun v => resK tt t H rs fun vs => k (v :: vs) := rfl
theorem resK_cell {tt : Tab} {t : List Value} {H : AHeap} {a : Nat} {ty : TypeId} {rs : List ResultVar} {k : List Value → Prop} : resK tt t H (.cell a ty :: rs) k = getK t a fun v => (match v with
        | .pointer (some ⟨i, off, _⟩) => tyK tt ty fun te => okK te.d (readK te H i off fun v => resK tt t H rs fun vs => k (v :: vs))
        | _ => False) := rfl
abbrev valK (vs : List Value) (k : Value → Prop) : Prop :=
  match vs with
  | [v] => k v
  | vs => k (.tuple vs.toArray)

abbrev notRun (u : FrameMode) (p : Prop) : Prop :=
  match u with
  | .run => False
  | _ => p
theorem notRun_elim {u : FrameMode} {p : Prop} (h : notRun u p) : u ≠ .run ∧ p := by cases u <;> simp_all [notRun]

abbrev DCall := FuncId → List Value → FrameMode → AHeap → (AEnd → FrameMode → AHeap → Prop) → Prop

noncomputable def leaveK (tt : Tab) (dc : DCall) (rs : List ResultVar) (t : List Value) (ds : List Deferred) : FrameMode → AHeap → CK → Prop :=
  List.rec (motive := fun _ => FrameMode → AHeap → CK → Prop)
    (fun u H K => match u with
      | .returning => resK tt t H rs fun vs => valK vs fun v => K (.returned v) H
      | .panicking ch => K (.panicked ch) H
      | .run => False)
    (fun d _ ih u H K => notRun u (match d.target with
      | .fn (.func g) cap => dc g (d.args.toList ++ cap.toList) u H fun e u' H' => (match e with
        | .returned _ => ih (settle u') H' K
        | .panicked ch => ih (raised u' ch) H' K)
      | .collected r => heapK H r fun o => (match o with
        | .deferred [] => ih u (H.kill r) K
        | _ => False)
      | _ => False)) ds
theorem leaveK_cons {tt : Tab} {dc : DCall} {rs : List ResultVar} {t : List Value} {d : Deferred} {ds : List Deferred} {u : FrameMode} {H : AHeap} {K : CK} : leaveK tt dc rs t (d :: ds) u H K = notRun u (match d.target with
      | .fn (.func g) cap => dc g (d.args.toList ++ cap.toList) u H fun e u' H' => (match e with
        | .returned _ => leaveK tt dc rs t ds (settle u') H' K
        | .panicked ch => leaveK tt dc rs t ds (raised u' ch) H' K)
      | .collected r => heapK H r fun o => (match o with
        | .deferred [] => leaveK tt dc rs t ds u (H.kill r) K
        | _ => False)
      | _ => False) := rfl

noncomputable def bodyK (tt : Tab) (dc : DCall) (rs : List ResultVar) (K : AEnd → FrameMode → AHeap → Prop) : EK := fun e s =>
  match s with
  | ⟨t, d, u, H⟩ => (match e with
    | .normal => leaveK tt dc rs t d .returning H fun e H => K e u H
    | .ret => leaveK tt dc rs t d .returning H fun e H => K e u H
    | .panic ch => leaveK tt dc rs t d (.panicking ch) H fun e H => K e u H
    | .exit _ => False)

/-! a round of a range over a function -/
abbrev setsK : List Value → List (Tmp × Value) → (List Value → Prop) → Prop
  | t, [], k => k t
  | t, (i, v) :: ps, k => setK t i v fun t' => setsK t' ps k
abbrev beginK (l : Nat) (s : St) (k : St → Prop) : Prop :=
  match s with
  | ⟨t, d, u, H⟩ => heapK H l fun o => (match o with
    | .loop r => (match r.state with
      | .ready => k ⟨t, d, u, H.set l (.loop ⟨.busy, r.pending, r.fn, r.tmps, r.params, r.assign, r.body, r.defers⟩)⟩
      | _ => False)
    | _ => False)
abbrev endRoundK (l : Nat) (jump : Option Code) (s : St) (K : CK) : Prop :=
  match s with
  | ⟨_, _, _, H⟩ => heapK H l fun o => match o with
    | .loop r => (match jump with
      | none => K (.returned (.bool true)) (H.set l (.loop ⟨.ready, none, r.fn, r.tmps, r.params, r.assign, r.body, r.defers⟩))
      | some j => K (.returned (.bool false)) (H.set l (.loop ⟨.done, some j, r.fn, r.tmps, r.params, r.assign, r.body, r.defers⟩)))
    | _ => False
abbrev roundEnd (l : Nat) (K : CK) : EK := fun e s =>
  match e with
  | .normal => endRoundK l none s K
  | .ret => endRoundK l (some .ret) s K
  | .exit id => endRoundK l (some (.exit id)) s K
  | .panic ch => (match s.d with | [] => K (.panicked ch) s.H | _ => False)
noncomputable def roundK (tt : Tab) (I : Interp) (hb : FuncId → Bool) (l : Nat) (args : List Value) (H : AHeap) (K : CK) : Prop :=
  heapK H l fun o => match o with
  | .loop r => (match Nat.beq args.length r.params.toList.length && hb r.fn with
    | true => setsK r.tmps.toList (r.params.toList.zip args) fun t =>
        den tt I ⟨false, some l, r.fn⟩ r.assign (fun e s => match e with
          | .normal => beginK l s fun s' => den tt I ⟨false, some l, r.fn⟩ r.body (roundEnd l K) s'
          | .panic ch => (match s.d with | [] => K (.panicked ch) s.H | _ => False)
          | _ => False) ⟨t, [], .run, H⟩
    | false => False)
  | _ => False

end Go.Abs
