/- What den says is what the machine does. -/
import Derived.Test.YtbmbabgkpcnppaaAbsDen
set_option linter.all false
namespace Go.Abs
open Go

def fatF (b : Frame) (t : Array Value) (d : List Deferred) (todo : List Item) : Frame := { b with tmps := t, defers := d, todo := todo, mode := .run }

def EntR (E : Env) (p q : PanicEntry) : Prop := VRel E p.v q.v ∧ q.recovered = p.recovered ∧ q.goexit = p.goexit
def ChRel (E : Env) : List PanicEntry → List PanicEntry → Prop
  | [], [] => True
  | p :: ps, q :: qs => EntR E p q ∧ ChRel E ps qs
  | _, _ => False
def MRel (E : Env) : FrameMode → FrameMode → Prop
  | .run, .run => True
  | .returning, .returning => True
  | .panicking a, .panicking b => ChRel E a b
  | _, _ => False
theorem ChRel.mono {E E' : Env} (hE : Ext E E') : ∀ {a b : List PanicEntry}, ChRel E a b → ChRel E' a b
  | [], [], _ => trivial
  | _ :: _, _ :: _, h => ⟨⟨h.1.1.mono hE, h.1.2⟩, ChRel.mono hE h.2⟩
  | [], _ :: _, h => h.elim
  | _ :: _, [], h => h.elim
theorem MRel.mono {E E' : Env} (hE : Ext E E') {a b : FrameMode} (h : MRel E a b) : MRel E' a b := by
  cases a <;> cases b <;> simp only [MRel] at h ⊢
  exact h.mono hE
theorem ChRel.append {E : Env} : ∀ {a b c d : List PanicEntry}, ChRel E a b → ChRel E c d → ChRel E (a ++ c) (b ++ d)
  | [], [], _, _, _, h => h
  | _ :: _, _ :: _, _, _, h, g => ⟨h.1, ChRel.append h.2 g⟩
  | [], _ :: _, _, _, h, _ => h.elim
  | _ :: _, [], _, _, h, _ => h.elim

structure Conc where
  t : Array Value
  d : List Deferred
  cs : List Frame
  w : World

/-- the callers are as they were, but for the mode of the one whose deferred call this is -/
def CsRel (E : Env) (cx : Cx) (cs0 : List Frame) (u : FrameMode) (cs : List Frame) : Prop :=
  match cx.dfr with
  | true => ∃ f r m, cs0 = f :: r ∧ cs = { f with mode := m } :: r ∧ MRel E u m
  | false => cs = cs0
theorem CsRel.mono {E E' : Env} (hE : Ext E E') {cx : Cx} {cs0 cs : List Frame} {u : FrameMode} (h : CsRel E cx cs0 u cs) : CsRel E' cx cs0 u cs := by
  unfold CsRel at *
  split at h
  · obtain ⟨f, r, m, a, b, c⟩ := h; exact ⟨f, r, m, a, b, c.mono hE⟩
  · exact h

structure SRel (w0 : World) (E : Env) (cx : Cx) (cs0 : List Frame) (s : St) (c : Conc) : Prop where
  rel : Rel w0 E s.H c.w
  t : LRel E s.t c.t
  d : DsRel E s.d c.d
  u : CsRel E cx cs0 s.u c.cs

structure CxRel (E : Env) (cx : Cx) (b : Frame) : Prop where
  fn : b.fn = cx.fn
  kind : b.kind = match cx.dfr with | true => .deferred | false => .normal
  ro : match cx.ro with | none => b.roundOf = none | some l => l < E.n ∧ b.roundOf = some (E.b l)
theorem CxRel.mono {E E' : Env} (hE : Ext E E') {cx : Cx} {b : Frame} (h : CxRel E cx b) : CxRel E' cx b := by
  refine ⟨h.fn, h.kind, ?_⟩
  have := h.ro
  split
  · rename_i hl
    rw [hl] at this
    exact this
  · rename_i l hl
    rw [hl] at this
    exact ⟨Nat.lt_of_lt_of_le this.1 hE.n, by rw [hE.b l this.1]; exact this.2⟩

def Arr (P : Program) (E : Env) (m : Machine) (b : Frame) (k : List Item) (x : AExit) (c : Conc) : Prop :=
  match x with
  | .normal => Steps P m (lone (fatF b c.t c.d k) c.cs c.w)
  | .exit id => (∀ k', exitTo id k = some k' → Steps P m (lone (fatF b c.t c.d k') c.cs c.w)) ∧
      (exitTo id k = none → ∃ k0, exitTo id k0 = none ∧ Steps P m (lone (fatF b c.t c.d (.code (.exit id) :: k0)) c.cs c.w))
  | .ret => ∃ k0, Steps P m (lone (fatF b c.t c.d (.code .ret :: k0)) c.cs c.w)
  | .panic ch => ∃ todo ch', ChRel E ch ch' ∧ Steps P m (lone { fatF b c.t c.d todo with mode := .panicking ch' } c.cs c.w)

theorem Arr.of_steps {P : Program} {E : Env} {m m₁ : Machine} {b : Frame} {k : List Item} {x : AExit} {c : Conc} (h : Steps P m m₁) (h' : Arr P E m₁ b k x c) : Arr P E m b k x c := by
  cases x with
  | normal => exact h.trans h'
  | exit id => exact ⟨fun k' hk => h.trans (h'.1 k' hk), fun hn => let ⟨k0, a, b⟩ := h'.2 hn; ⟨k0, a, h.trans b⟩⟩
  | ret => obtain ⟨k0, a⟩ := h'; exact ⟨k0, h.trans a⟩
  | panic ch => obtain ⟨t, ch', a, b⟩ := h'; exact ⟨t, ch', a, h.trans b⟩
def plainI : Item → Bool
  | .inBlock _ => false
  | _ => true
theorem exitTo_plain {id : Nat} {y : Item} {k : List Item} (hy : plainI y = true) : exitTo id (y :: k) = exitTo id k := by
  cases y <;> simp_all [exitTo, plainI]
theorem Arr.pass {P : Program} {E : Env} {m : Machine} {b : Frame} {y : Item} {k : List Item} {x : AExit} {c : Conc} (hy : plainI y = true) (hx : x ≠ .normal) (h : Arr P E m b (y :: k) x c) : Arr P E m b k x c := by
  cases x with
  | normal => exact absurd rfl hx
  | exit id => simp only [Arr, exitTo_plain hy] at h; exact h
  | ret => exact h
  | panic ch => exact h

/-- from this item on -/
def AHead (P : Program) (cx : Cx) (h : Item) (K : EK) (s : St) : Prop :=
  ∀ (w0 : World) (E : Env) (b : Frame) (k : List Item) (cs0 : List Frame) (c : Conc), CxRel E cx b → SRel w0 E cx cs0 s c →
    ∃ x s' E' c', K x s' ∧ Ext E E' ∧ SRel w0 E' cx cs0 s' c' ∧ Arr P E' (lone (fatF b c.t c.d (h :: k)) c.cs c.w) b k x c'
abbrev AWp (P : Program) (cx : Cx) (c : Code) (K : EK) (s : St) : Prop := AHead P cx (.code c) K s

section
variable {P : Program} {cx : Cx} {K : EK} {s : St}

theorem AHead.mono {h : Item} {K' : EK} (hk : AHead P cx h K s) (hq : ∀ e s', K e s' → K' e s') : AHead P cx h K' s :=
  fun w0 E b k cs0 c h1 h2 => let ⟨x, s', E', c', a, r⟩ := hk w0 E b k cs0 c h1 h2; ⟨x, s', E', c', hq _ _ a, r⟩

theorem AHead.of_step {h h' : Item} (hs : ∀ b t d k cs w, step P (lone (fatF b t d (h :: k)) cs w) = .next (lone (fatF b t d (h' :: k)) cs w)) (hk : AHead P cx h' K s) : AHead P cx h K s :=
  fun w0 E b k cs0 c h1 h2 => let ⟨x, s', E', c', a, e, r, ar⟩ := hk w0 E b k cs0 c h1 h2; ⟨x, s', E', c', a, e, r, ar.of_steps (.one (hs _ _ _ _ _ _))⟩
theorem AHead.normal {h : Item} (hs : ∀ b t d k cs w, step P (lone (fatF b t d (h :: k)) cs w) = .next (lone (fatF b t d k) cs w)) (hk : K .normal s) : AHead P cx h K s :=
  fun _ E _ _ _ c _ h2 => ⟨.normal, s, E, c, hk, Ext.refl E, h2, .one (hs _ _ _ _ _ _)⟩

theorem awp_skip (h : K .normal s) : AWp P cx .skip K s := AHead.normal (fun _ _ _ _ _ _ => step_lone_go (by simp [stepG, stepG.exec, fatF])) h
theorem awp_label {l : Nat} (h : K .normal s) : AWp P cx (.label l) K s := AHead.normal (fun _ _ _ _ _ _ => step_lone_go (by simp [stepG, stepG.exec, fatF])) h
theorem awp_exit {id : Nat} (h : K (.exit id) s) : AWp P cx (.exit id) K s :=
  fun _ E _ k _ c _ h2 => ⟨.exit id, s, E, c, h, Ext.refl E, h2, fun _ hk => .one (step_lone_go (by simp [stepG, stepG.exec, fatF, hk])), fun hn => ⟨k, hn, .refl _ _⟩⟩
theorem awp_ret (h : K .ret s) : AWp P cx .ret K s := fun _ E _ k _ c _ h2 => ⟨.ret, s, E, c, h, Ext.refl E, h2, k, .refl _ _⟩

/-- one item, then the next -/
theorem AHead.two {y h1 h2 : Item} (hy : plainI h2 = true) (hs : ∀ b t d k cs w, step P (lone (fatF b t d (y :: k)) cs w) = .next (lone (fatF b t d (h1 :: h2 :: k)) cs w))
    (h : AHead P cx h1 (fun e s' => match e with | .normal => AHead P cx h2 K s' | e => K e s') s) : AHead P cx y K s := by
  intro w0 E b k cs0 c hc hr
  obtain ⟨x, s1, E1, c1, hK, hE, hr1, ha⟩ := h w0 E b (h2 :: k) cs0 c hc hr
  have ha' := ha.of_steps (m := lone (fatF b c.t c.d (y :: k)) c.cs c.w) (.one (hs _ _ _ _ _ _))
  cases x with
  | normal =>
    obtain ⟨x2, s2, E2, c2, hK2, hE2, hr2, ha2⟩ := hK w0 E1 b k cs0 c1 (hc.mono hE) hr1
    exact ⟨x2, s2, E2, c2, hK2, hE.trans hE2, hr2, ha2.of_steps ha'⟩
  | exit id => exact ⟨_, s1, E1, c1, hK, hE, hr1, ha'.pass hy (by simp)⟩
  | ret => exact ⟨_, s1, E1, c1, hK, hE, hr1, ha'.pass hy (by simp)⟩
  | panic ch => exact ⟨_, s1, E1, c1, hK, hE, hr1, ha'.pass hy (by simp)⟩

theorem awp_seq {a b : Code} (h : AWp P cx a (fun e s' => match e with | .normal => AWp P cx b K s' | e => K e s') s) : AWp P cx (.seq a b) K s :=
  AHead.two rfl (fun _ _ _ _ _ _ => step_lone_go (by simp [stepG, stepG.exec, fatF])) h

theorem awp_scope {c : Code} (h : AWp P cx c K s) : AWp P cx (.scope c) K s := by
  refine AHead.two (h2 := .inScope c) rfl (fun _ _ _ _ _ _ => step_lone_go (by simp [stepG, stepG.exec, fatF])) (AHead.mono h fun e s' hk => ?_)
  cases e with
  | normal => exact AHead.normal (fun _ _ _ _ _ _ => step_lone_go (by simp [stepG, stepG.exec, fatF])) hk
  | _ => exact hk

theorem awp_block {id : Nat} {c : Code} (h : AWp P cx c (fun e s' => match e with | .exit id' => (match Nat.beq id' id with | true => K .normal s' | false => K (.exit id') s') | e => K e s') s) : AWp P cx (.block id c) K s := by
  intro w0 E b k cs0 cc hc hr
  obtain ⟨x, s1, E1, c1, hK, hE, hr1, ha⟩ := h w0 E b (.inBlock id :: k) cs0 cc hc hr
  have hst : step P (lone (fatF b cc.t cc.d (.code (.block id c) :: k)) cc.cs cc.w) = .next (lone (fatF b cc.t cc.d (.code c :: .inBlock id :: k)) cc.cs cc.w) :=
    step_lone_go (by simp [stepG, stepG.exec, fatF])
  have ha' := ha.of_steps (.one hst)
  cases x with
  | normal =>
    have : step P (lone (fatF b c1.t c1.d (.inBlock id :: k)) c1.cs c1.w) = .next (lone (fatF b c1.t c1.d k) c1.cs c1.w) := step_lone_go (by simp [stepG, stepG.exec, fatF])
    exact ⟨.normal, s1, E1, c1, hK, hE, hr1, Steps.trans ha' (.one this)⟩
  | exit id' =>
    obtain ⟨h1, h2⟩ := ha'
    simp only at hK
    split at hK
    · rename_i hb
      have he := Nat.eq_of_beq_eq_true hb
      subst he
      exact ⟨.normal, s1, E1, c1, hK, hE, hr1, h1 k (by simp [exitTo])⟩
    · rename_i hb
      have he : (id == id') = false := by
        have : id' ≠ id := fun e => by rw [e] at hb; simp at hb
        simp; exact fun e => this e.symm
      refine ⟨.exit id', s1, E1, c1, hK, hE, hr1, fun k' hk => h1 k' (by simp [exitTo, he, hk]), fun hn => h2 (by simp [exitTo, he, hn])⟩
  | ret => exact ⟨_, s1, E1, c1, hK, hE, hr1, ha'⟩
  | panic ch => exact ⟨_, s1, E1, c1, hK, hE, hr1, ha'⟩

theorem evalF (b : Frame) (t : Array Value) (d : List Deferred) (todo : List Item) (x : Operand) : (fatF b t d todo).eval x = evalC t x := by cases x <;> rfl

theorem awp_cond {c : Operand} {x y : Code} {p q : Prop} (h : evalK s.t c fun v => (match v with | .bool b => condK b p q | _ => False)) (hp : p → AWp P cx x K s) (hq : q → AWp P cx y K s) : AWp P cx (.cond c x y) K s := by
  intro w0 E b k cs0 cc hc hr
  obtain ⟨v, h1, hv⟩ := evalK_elim hr.t h
  split at h1
  · rename_i bb
    generalize hce : evalC cc.t c = v' at hv
    cases hv
    have hst : step P (lone (fatF b cc.t cc.d (.code (.cond c x y) :: k)) cc.cs cc.w) = .next (lone (fatF b cc.t cc.d (.code (if bb then x else y) :: k)) cc.cs cc.w) :=
      step_lone_go (by
        have := evalF b cc.t cc.d (.code (.cond c x y) :: k) c
        rw [hce] at this
        simp only [fatF] at this ⊢
        simp [stepG, stepG.exec, this])
    rcases condK_elim h1 with ⟨rfl, h2⟩ | ⟨rfl, h2⟩
    · obtain ⟨x1, s1, E1, c1, hK, hE, hr1, ha⟩ := hp h2 w0 E b k cs0 cc hc hr
      exact ⟨x1, s1, E1, c1, hK, hE, hr1, ha.of_steps (.one hst)⟩
    · obtain ⟨x1, s1, E1, c1, hK, hE, hr1, ha⟩ := hq h2 w0 E b k cs0 cc hc hr
      exact ⟨x1, s1, E1, c1, hK, hE, hr1, ha.of_steps (.one hst)⟩
  · exact h1.elim

/-! what is forgotten -/
/-- slots that are no more known, blocks that are no more described -/
structure Weak (s s' : St) : Prop where
  len : s'.t.length = s.t.length
  t : ∀ i, s'.t.getD i undef = s.t.getD i undef ∨ s'.t.getD i undef = undef
  d : s'.d = s.d
  u : s'.u = s.u
  size : s'.H.size = s.H.size
  H : ∀ i o, s'.H.get i = some o → s.H.get i = some o
theorem Weak.refl (s : St) : Weak s s := ⟨rfl, fun _ => .inl rfl, rfl, rfl, rfl, fun _ _ h => h⟩
theorem Rel.drop {w0 : World} {E : Env} {H H' : AHeap} {w : World} (h : Rel w0 E H w) (hs : H'.size = H.size) (hH : ∀ i o, H'.get i = some o → H.get i = some o) : Rel w0 E H' w where
  n := h.n.trans hs.symm
  size := h.size
  old := h.old
  tape := h.tape
  os := h.os
  output := h.output
  obj i o hi := by rw [hs]; exact h.obj i o (hH i o hi)
  own i o hi ho := let ⟨a, b⟩ := h.own i o (hH i o hi) ho; ⟨a, fun j o' hj hne => b j o' (hH j o' hj) hne⟩
theorem SRel.weak {w0 : World} {E : Env} {cs0 : List Frame} {s s' : St} {c : Conc} (h : SRel w0 E cx cs0 s c) (hw : Weak s s') : SRel w0 E cx cs0 s' c where
  rel := h.rel.drop hw.size hw.H
  t := ⟨hw.len.trans h.t.size, fun i hi => by
    rcases hw.t i with e | e
    · rw [e]; exact h.t.getD i
    · rw [e]; exact .any _⟩
  d := by rw [hw.d]; exact h.d
  u := by rw [hw.u]; exact h.u
theorem AHead.weak {h : Item} {s' : St} (hw : Weak s s') (hk : AHead P cx h K s') : AHead P cx h K s :=
  fun w0 E b k cs0 c hc hr => hk w0 E b k cs0 c hc (hr.weak hw)

end
end Go.Abs
