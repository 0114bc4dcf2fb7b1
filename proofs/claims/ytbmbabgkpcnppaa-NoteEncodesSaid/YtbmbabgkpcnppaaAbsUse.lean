/- Calls that leave memory as it was; steps for walks. -/
import Derived.Test.YtbmbabgkpcnppaaAbsEval
set_option linter.all false
namespace Go.Abs
open Go

section
variable {P : Program} {tt : Tab} {cx : Cx}

def okTrue : CK := fun e _ => match e with | .returned (.bool true) => True | _ => False
theorem okTrue_eq {e : AEnd} {H : AHeap} (h : okTrue e H) : e = .returned (.bool true) := by
  unfold okTrue at h
  split at h
  · rfl
  · exact h.elim

/-- a closed call, whatever there is -/
theorem callS_closedT (hm : P.follows .mixedOrders = true) (hT : TyOk P tt) {n : Nat} {f : FuncId} (h : (fuelI P tt n).call (.func (.func f) #[] #[]) [] AHeap.empty okTrue) {H : AHeap} {K : CK} (hk : K (.returned (.bool true)) H) :
    callS P (.func (.func f) #[] #[]) [] H K := by
  have h1 : callS P (.func (.func f) #[] #[]) [] AHeap.empty (fun e _ => e = .returned (.bool true)) := (fuel_sound hm hT n).1.call _ _ _ _ _ h fun e H he => okTrue_eq he
  have h1 := callS_elim h1
  refine callS_of fun w0 E w fv' args' hR hf ha c0 cs w00 c S hA hS => ?_
  have hE : Rel w ⟨0, fun _ => 0, fun _ => 0, fun _ => 0⟩ AHeap.empty w := ⟨rfl, Nat.le_refl _, fun _ _ => rfl, rfl, rfl, rfl, fun i o h => by simp [AHeap.empty] at h, fun i o h => by simp [AHeap.empty] at h⟩
  have hf' : VRel ⟨0, fun _ => 0, fun _ => 0, fun _ => 0⟩ (.func (.func f) #[] #[]) fv' := by
    cases hf with
    | func _ _ fs' _ cs' h0 g1 g2 g3 g4 =>
      have e1 : fs' = #[] := by simpa using g1.symm
      have e2 : cs' = #[] := by simpa using g2.symm
      subst e1 e2
      exact .func (.func f) #[] #[] #[] #[] trivial rfl rfl (fun i hi => absurd hi (by simp)) (fun i hi => absurd hi (by simp))
  have ha' : args' = #[] := by have := ha.size; simpa using this.symm
  subst ha'
  obtain ⟨e, H', E', w', p1, p2, p3, p4⟩ := h1 w _ w fv' #[] hE hf' (LRel.nil _) c0 cs w00 c S hA hS
  subst p1
  obtain ⟨v', q1, q2⟩ := p4
  have hv : v' = .bool true := by cases q1; rfl
  subst hv
  exact ⟨.returned (.bool true), H, E, w', hk, Ext.refl E, hR.world p3.size p3.tape p3.os p3.output p3.old, .bool true, .bool true, q2⟩

theorem acall_walk (hT : TyOk P tt) {f : FuncId} {fn : Func} {c : Code} (hf : P.funcs[f]? = some fn) (hb : fn.body = some c) {args : List Value} {H : AHeap} {K : CK}
    (h : den tt (SI P) ⟨false, none, f⟩ c (bodyK tt (defS P) fn.results.toList fun e _ H' => K e H') ⟨args ++ List.replicate (fn.ntmps - args.length) undef, [], .run, H⟩) : ACall P f args H K :=
  acall_of hT (def_ok P) hf hb (den_sound hT (si_ok P) c h)

theorem loadK_get {H : AHeap} {i off : Nat} {K : Value → Prop} {c : List Value} {own : Bool} {sz : Nat} {v : Value} (h : H.get i = some (.cells c own sz)) (hv : c[off]? = some v) (hk : K v) : loadK H i off K :=
  loadK_of (v := v) (by simp [AHeap.cell, h, hv]) hk

/-- slots that are no more known -/
inductive WT : List Value → List Value → Prop where
  | nil : WT [] []
  | same {a : Value} {t t' : List Value} : WT t t' → WT (a :: t) (a :: t')
  | drop {a : Value} {t t' : List Value} : WT t t' → WT (a :: t) (undef :: t')
theorem WT.len {t t' : List Value} (h : WT t t') : t'.length = t.length := by induction h <;> simp_all
theorem WT.get {t t' : List Value} (h : WT t t') : ∀ i, t'.getD i undef = t.getD i undef ∨ t'.getD i undef = undef := by
  induction h with
  | nil => intro i; exact .inl rfl
  | same _ ih => intro i; cases i with
    | zero => exact .inl rfl
    | succ i => simpa using ih i
  | drop _ ih => intro i; cases i with
    | zero => exact .inr rfl
    | succ i => simpa using ih i
theorem WT.int {t t' : List Value} {k : IntKind} {x y : Int} (h : x = y) (g : WT t t') : WT (.int k x :: t) (.int k y :: t') := h ▸ .same g
theorem loopS_weak {c : Code} {K : EK} {s s' : St} (hw : Weak s s') (h : loopS P cx c K s') : loopS P cx c K s := by
  unfold loopS at *
  exact ⟨h.1.weak hw, h.2.weak hw⟩
end
end Go.Abs
