/- Calls, deferred calls, rounds: what they mean, and how code meets them. -/
import Derived.Test.YtbmbabgkpcnppaaAbsRun
set_option linter.all false
namespace Go.Abs
open Go

def EndAt (P : Program) (E : Env) (M0 : Machine) (c : Frame) (cs : List Frame) (e : AEnd) (w' : World) : Prop :=
  match e with
  | .returned v => ∃ v', VRel E v v' ∧ Steps P M0 (lone (c.finish v') cs w')
  | .panicked ch => ∃ ch', ChRel E ch ch' ∧ Steps P M0 (lone (c.raise ch') cs w')

def unwrapped : List Item → Bool
  | .call _ true _ _ :: _ => false
  | _ => true

/-- the machine's next step carries out S in the frame c -/
def Asked (P : Program) (c0 : Frame) (cs : List Frame) (w00 : World) (c : Frame) (w : World) (S : Sem Next) : Prop :=
  (stepG P true { frame := c0, callers := cs, status := .running, dying := none } w00).bare = (stepG.apply P true c cs none S w).bare ∧ unwrapped c.todo = true

def ACallV (P : Program) (fv : Value) (args : List Value) (H : AHeap) (K : CK) : Prop :=
  ∀ (w0 : World) (E : Env) (w : World) (fv' : Value) (args' : Array Value), Rel w0 E H w → VRel E fv fv' → LRel E args args' →
    ∀ (c0 : Frame) (cs : List Frame) (w00 : World) (c : Frame) (S : Sem Next), Asked P c0 cs w00 c w S →
      S.run P w = ((Deferred.ofValue fv' args') >>= fun d => invoke d.target d.args).run P w →
      ∃ e H' E' w', K e H' ∧ Ext E E' ∧ Rel w0 E' H' w' ∧ EndAt P E' (lone c0 cs w00) c cs e w'

def AInv (P : Program) (rv : Value) (m : String) (args : List Value) (H : AHeap) (K : CK) : Prop :=
  ∀ (w0 : World) (E : Env) (w : World) (rv' : Value) (args' : Array Value), Rel w0 E H w → VRel E rv rv' → LRel E args args' →
    ∀ (c0 : Frame) (cs : List Frame) (w00 : World) (c : Frame) (S : Sem Next), Asked P c0 cs w00 c w S →
      S.run P w = (callMethod rv' m args').run P w →
      ∃ e H' E' w', K e H' ∧ Ext E E' ∧ Rel w0 E' H' w' ∧ EndAt P E' (lone c0 cs w00) c cs e w'

def EndR (E : Env) : AEnd → Ending → Prop
  | .returned v, .returned v' => VRel E v v'
  | .panicked ch, .panicked ch' => ChRel E ch ch'
  | _, _ => False

def ACall (P : Program) (f : FuncId) (args : List Value) (H : AHeap) (K : CK) : Prop :=
  ∀ (w0 : World) (E : Env) (w : World) (args' : Array Value), Rel w0 E H w → LRel E args args' → ∀ cs, ∃ e H' E' w' fr e', K e H' ∧ Ext E E' ∧ Rel w0 E' H' w' ∧ EndR E' e e' ∧
    Steps P (lone (Frame.enter P f args' .normal) cs w) (lone fr cs w') ∧ fr.fn = f ∧ fr.leaving P w' e'

def hasBody (P : Program) (f : FuncId) : Bool :=
  match P.funcs[f]? with
  | some fn => !(fn.name == "runtime.NumGoroutine") && fn.body.isSome
  | none => false

def ADef (P : Program) (f : FuncId) (args : List Value) (u : FrameMode) (H : AHeap) (K : AEnd → FrameMode → AHeap → Prop) : Prop :=
  hasBody P f = true ∧ ∀ (w0 : World) (E : Env) (w : World) (args' : Array Value), Rel w0 E H w → LRel E args args' → ∀ (c : Frame) (cs : List Frame), MRel E u c.mode →
    ∃ e u' H' E' w' fr m' e', K e u' H' ∧ Ext E E' ∧ Rel w0 E' H' w' ∧ EndR E' e e' ∧ MRel E' u' m' ∧
      Steps P (lone (Frame.enter P f args' .deferred) (c :: cs) w) (lone fr ({ c with mode := m' } :: cs) w') ∧ fr.kind = .deferred ∧ fr.going P w' e'

theorem ACallV.mono {P : Program} {fv : Value} {args : List Value} {H : AHeap} {K K' : CK} (h : ACallV P fv args H K) (hk : ∀ e H', K e H' → K' e H') : ACallV P fv args H K' := by
  intro w0 E w fv' args' h1 h2 h3 c0 cs w00 c S h4 h5
  obtain ⟨e, H', E', w', a, r⟩ := h w0 E w fv' args' h1 h2 h3 c0 cs w00 c S h4 h5
  exact ⟨e, H', E', w', hk _ _ a, r⟩
theorem ACall.mono {P : Program} {f : FuncId} {args : List Value} {H : AHeap} {K K' : CK} (h : ACall P f args H K) (hk : ∀ e H', K e H' → K' e H') : ACall P f args H K' := by
  intro w0 E w args' h1 h2 cs
  obtain ⟨e, H', E', w', fr, e', a, r⟩ := h w0 E w args' h1 h2 cs
  exact ⟨e, H', E', w', fr, e', hk _ _ a, r⟩

section
variable {P : Program} {tt : Tab} {cx : Cx}

theorem callFunc_run {f : FuncId} (h : hasBody P f = true) (args : Array Value) (w : World) : (callFunc f args).run P w = .ok (.enter f args) w := by
  unfold hasBody at h
  unfold callFunc
  cases hf : P.funcs[f]? with
  | none => simp [hf] at h
  | some fn =>
    simp only [hf, Bool.and_eq_true, Bool.not_eq_true'] at h
    have h1 : ¬ fn.name = "runtime.NumGoroutine" := by simpa using h.1
    have h2 : ¬ fn.body = none := by intro e; rw [e] at h; simp at h
    simp [hf, h1, h2]

theorem step_asked {c0 : Frame} {cs : List Frame} {w00 : World} {c : Frame} {w : World} {S : Sem Next} (h : Asked P c0 cs w00 c w S) {g : Goroutine} {w' : World} (hr : (stepG.apply P true c cs none S w).bare = .go g w')
    (hg : g.status = .running ∧ g.dying = none ∧ g.offers = none) : step P (lone c0 cs w00) = .next (lone g.frame g.callers w') := by
  obtain ⟨fr, cs', st, dy, off⟩ := g
  obtain ⟨rfl, rfl, rfl⟩ := hg
  exact step_lone_go (h.1.trans hr)

theorem acallv_func {f : FuncId} {first cap : Array Value} {args : List Value} {H : AHeap} {K : CK} (hb : hasBody P f = true) (h : ACall P f (first.toList ++ args ++ cap.toList) H K) :
    ACallV P (.func (.func f) first cap) args H K := by
  intro w0 E w fv' args' h1 h2 h3 c0 cs w00 c S h4 h5
  cases h2 with
  | func _ _ fs' _ cs' hf g1 g2 g3 g4 =>
    have hl : LRel E (first.toList ++ args ++ cap.toList) (fs' ++ args' ++ cs') := ((ARel.toList ⟨g1, g3⟩).append h3).append (ARel.toList ⟨g2, g4⟩)
    obtain ⟨e, H', E', w', fr, e', p1, p2, p3, p4, p5, p6, p7⟩ := h w0 E w _ h1 hl (c :: cs)
    have hS : S.run P w = .ok (.enter f (fs' ++ args' ++ cs')) w := by
      rw [h5]
      simp only [fnMap, Deferred.ofValue, Sem.run_bind, Sem.run_pure, Result.andThen_ok, invoke]
      exact callFunc_run hb _ _
    have hap : (stepG.apply P true c cs none S w).bare = .go { frame := Frame.enter P f (fs' ++ args' ++ cs') .normal, callers := c :: cs, status := .running, dying := none } w := by
      have hk := h4.2
      simp only [stepG.apply, Sem.runT_eq, hS, if_true, GStep.bare_after]
      split
      · rename_i heq
        rw [heq] at hk
        exact absurd hk (by simp [unwrapped])
      · rfl
    have hst := step_asked h4 hap ⟨rfl, rfl, rfl⟩
    refine ⟨e, H', E', w', p1, p2, p3, ?_⟩
    cases e with
    | returned v =>
      cases e' with
      | returned v' => exact ⟨v', p4, .head hst (p5.trans (.one (step_leave_returned p7)))⟩
      | _ => exact p4.elim
    | panicked ch =>
      cases e' with
      | panicked ch' => exact ⟨ch', p4, .head hst (p5.trans (.one (step_leave_panicked p7)))⟩
      | _ => exact p4.elim

/-- the function that is a type's method, where its receiver is the value as it is -/
def methodFn (P : Program) (t : TypeId) (m : String) : Option FuncId :=
  match P.info? t with
  | some i => (match i.methods.find? (fun x => x.name == m) with
    | some r => (match r.path.isEmpty, r.func with
      | true, some (f, ptr) => (match hasBody P f with
        | true => (match P.underlying t with
          | some (.pointer _) => (match ptr with | true => some f | false => none)
          | some _ => (match ptr with | true => none | false => some f)
          | none => none)
        | false => none)
      | _, _ => none)
    | none => none)
  | none => none
theorem methodFn_run {t : TypeId} {m : String} {f : FuncId} (h : methodFn P t m = some f) (v : Value) (w : World) (n : Nat) : hasBody P f = true ∧ (method (n + 1) t v m).run P w = .ok (f, v) w := by
  unfold methodFn at h
  split at h
  · rename_i i hi
    split at h
    · rename_i r hr
      split at h
      · rename_i g ptr hpath hfunc
        split at h
        · rename_i hb
          have hpe : r.path.toList = [] := by simpa using hpath
          have key : ∀ d, P.underlying t = some d → ((∃ e, d = .pointer e) ∧ ptr = true ∨ (∀ e, d ≠ .pointer e) ∧ ptr = false) → g = f → hasBody P f = true ∧ (method (n + 1) t v m).run P w = .ok (f, v) w := by
            intro d hd hc hg
            subst hg
            refine ⟨hb, ?_⟩
            rw [method]
            rcases hc with ⟨⟨e, rfl⟩, rfl⟩ | ⟨hne, rfl⟩
            · simp [Sem.run_bind, typeInfo, hi, hr, hpe, follow, hfunc, receiverAt, underlying, hd, Place.get]
            · cases d <;> first | (exact absurd rfl (hne _)) | simp [Sem.run_bind, typeInfo, hi, hr, hpe, follow, hfunc, receiverAt, underlying, hd, Place.get]
          split at h
          · rename_i e he
            split at h
            · exact key _ he (.inl ⟨⟨_, rfl⟩, rfl⟩) (Option.some.inj h)
            · exact absurd h (by simp)
          · rename_i d hn hd
            split at h
            · exact absurd h (by simp)
            · exact key _ hd (.inr ⟨fun e h2 => hn e h2, rfl⟩) (Option.some.inj h)
          · exact absurd h (by simp)
        · exact absurd h (by simp)
      · exact absurd h (by simp)
    · exact absurd h (by simp)
  · exact absurd h (by simp)
theorem ainv_of_call {t : TypeId} {m : String} {f : FuncId} {v : Value} {args : List Value} {H : AHeap} {K : CK} (hm : methodFn P t m = some f) (h : ACallV P (.func (.func f) #[] #[]) (v :: args) H K) : AInv P (.iface t v) m args H K := by
  intro w0 E w rv' args' h1 h2 h3 c0 cs w00 c S h4 h5
  cases h2 with
  | iface _ _ v' hv =>
    have hl : LRel E (v :: args) (#[v'] ++ args') := by
      have := LRel.cons (m := args'.toList) hv (by simpa using h3)
      have e : #[v'] ++ args' = (v' :: args'.toList).toArray := by simp
      rw [e]; exact this
    refine h w0 E w (.func (.func f) #[] #[]) (#[v'] ++ args') h1 (.func (.func f) #[] #[] #[] #[] trivial rfl rfl (fun i hi => absurd hi (by simp)) (fun i hi => absurd hi (by simp))) hl c0 cs w00 c S h4 ?_
    rw [h5]
    obtain ⟨hb, hrun⟩ := methodFn_run (P := P) hm v' w (P.types.size + 99)
    have e1 : (callMethod (.iface t v') m args').run P w = .ok (.enter f (#[v'] ++ args')) w := by
      have hd : P.types.size + Made.depth = P.types.size + 99 + 1 := rfl
      simp [callMethod, Sem.run_bind, hd, hrun, callFunc_run hb]
    rw [e1]
    simp only [Deferred.ofValue, Sem.run_bind, Sem.run_pure, Result.andThen_ok, invoke]
    have := callFunc_run (P := P) hb (#[] ++ (#[v'] ++ args') ++ #[]) w
    simp at this ⊢
    exact this.symm
end
end Go.Abs
