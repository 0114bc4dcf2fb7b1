/- The meaning of calls and loops as such: the logic that proofs are typed in. -/
import Derived.Test.YtbmbabgkpcnppaaAbsAll
set_option linter.all false
namespace Go.Abs
open Go

/-- a call of a function value -/
@[irreducible] def callS (P : Program) : Value → List Value → AHeap → CK → Prop := ACallV P
@[irreducible] def invS (P : Program) : Value → String → List Value → AHeap → CK → Prop := AInv P
@[irreducible] def loopS (P : Program) (cx : Cx) (c : Code) (K : EK) (s : St) : Prop := AWp P cx (.loop c) K s ∧ AHead P cx (.inLoop c) K s
@[irreducible] def drawS (P : Program) (cx : Cx) (ops : Array Oper) (K : EK) (s : St) : Prop := ∀ id, AWp P cx (.region id ops true) K s
@[irreducible] def defS (P : Program) : DCall := ADef P

def SI (P : Program) : Interp := { call := callS P, inv := invS P, loop := loopS P, draw := drawS P }
theorem si_ok (P : Program) : IOk P (SI P) where
  call _ _ _ _ h := by unfold SI callS at h; exact h
  inv _ _ _ _ _ h := by unfold SI invS at h; exact h
  loop _ _ _ _ h := by unfold SI loopS at h; exact h.1
  draw _ _ _ _ id h := by unfold SI drawS at h; exact h id
theorem def_ok (P : Program) : ∀ g args u H K, defS P g args u H K → ADef P g args u H K := fun _ _ _ _ _ h => by unfold defS at h; exact h

section
variable {P : Program} {tt : Tab} {cx : Cx}

theorem callS_of {fv : Value} {args : List Value} {H : AHeap} {K : CK} (h : ACallV P fv args H K) : callS P fv args H K := by unfold callS; exact h
theorem callS_elim {fv : Value} {args : List Value} {H : AHeap} {K : CK} (h : callS P fv args H K) : ACallV P fv args H K := by unfold callS at h; exact h
theorem callS_mono {fv : Value} {args : List Value} {H : AHeap} {K K' : CK} (h : callS P fv args H K) (hk : ∀ e H', K e H' → K' e H') : callS P fv args H K' :=
  callS_of ((callS_elim h).mono hk)
theorem defS_of {g : FuncId} {args : List Value} {u : FrameMode} {H : AHeap} {K : AEnd → FrameMode → AHeap → Prop} (h : ADef P g args u H K) : defS P g args u H K := by unfold defS; exact h

theorem invS_of {t : TypeId} {m : String} {f : FuncId} {v : Value} {args : List Value} {H : AHeap} {K : CK} (hm : methodFn P t m = some f) (h : callS P (.func (.func f) #[] #[]) (v :: args) H K) : invS P (.iface t v) m args H K := by
  unfold invS
  exact ainv_of_call hm (callS_elim h)
/-- a function's walk gives its call -/
theorem callS_walk (hT : TyOk P tt) {f : FuncId} {fn : Func} {c : Code} (hf : P.funcs[f]? = some fn) (hb : fn.body = some c) (hbody : hasBody P f = true) {first cap : Array Value} {args : List Value} {H : AHeap} {K : CK}
    (h : den tt (SI P) ⟨false, none, f⟩ c (bodyK tt (defS P) fn.results.toList fun e _ H' => K e H')
      ⟨(first.toList ++ args ++ cap.toList) ++ List.replicate (fn.ntmps - (first.toList ++ args ++ cap.toList).length) undef, [], .run, H⟩) : callS P (.func (.func f) first cap) args H K :=
  callS_of (acallv_func hbody (acall_of hT (def_ok P) hf hb (den_sound hT (si_ok P) c h)))
theorem defS_walk (hT : TyOk P tt) {f : FuncId} {fn : Func} {c : Code} (hf : P.funcs[f]? = some fn) (hb : fn.body = some c) (hbody : hasBody P f = true) {args : List Value} {u : FrameMode} {H : AHeap} {K : AEnd → FrameMode → AHeap → Prop}
    (h : den tt (SI P) ⟨true, none, f⟩ c (bodyK tt (defS P) fn.results.toList K) ⟨args ++ List.replicate (fn.ntmps - args.length) undef, [], u, H⟩) : defS P f args u H K :=
  defS_of (adef_of hT (def_ok P) hf hb hbody (den_sound hT (si_ok P) c h))
/-- a round's walk -/
theorem callS_round (hT : TyOk P tt) {l : Nat} {args : List Value} {H : AHeap} {K : CK} (h : roundK tt (SI P) (hasBody P) l args H K) : callS P (.func (.yield l) #[] #[]) args H K :=
  callS_of (acallv_yield hT (si_ok P) h)
/-- one round of a loop, then the loop -/
theorem loopS_round (hT : TyOk P tt) {c : Code} {K : EK} {s : St} (h : den tt (SI P) cx c (fun e s' => match e with | .normal => loopS P cx c K s' | e => K e s') s) : loopS P cx c K s := by
  have h := den_sound (cx := cx) hT (si_ok P) c h
  unfold loopS at h ⊢
  refine ⟨?_, ?_⟩
  · refine AHead.two (h1 := .code c) (h2 := .inLoop c) rfl (fun _ _ _ _ _ _ => step_lone_go (by simp [stepG, stepG.exec, fatF])) (AHead.mono h fun e s' hk => ?_)
    cases e with
    | normal => exact hk.2
    | _ => exact hk
  · refine AHead.two (h1 := .code c) (h2 := .inLoop c) rfl (fun _ _ _ _ _ _ => step_lone_go (by simp [stepG, stepG.exec, fatF])) (AHead.mono h fun e s' hk => ?_)
    cases e with
    | normal => exact hk.2
    | _ => exact hk

/-! steps of a walk -/
theorem intK_in {e : Int} {K : Int → Prop} (h : -9223372036854775808 ≤ e ∧ e ≤ 9223372036854775807) (hk : K e) : intK .i64 e K :=
  intK_of (by rw [wrap_in e h.1 h.2]; exact hk)
theorem condK_dec {p : Prop} [Decidable p] {a b : Prop} (h1 : p → a) (h2 : ¬p → b) : condK (decide p) a b :=
  condK_of (fun h => h1 (of_decide_eq_true h)) (fun h => h2 (of_decide_eq_false h))
theorem condK_not {c : Bool} {a b : Prop} (h : condK c b a) : condK (!c) a b := by
  rcases condK_elim h with ⟨hc, h'⟩ | ⟨hc, h'⟩
  · exact condK_false (by simp [hc]) h'
  · exact condK_true (by simp [hc]) h'
theorem condK_t {a b : Prop} (h : a) : condK true a b := condK_true rfl h
theorem condK_f {a b : Prop} (h : b) : condK false a b := condK_false rfl h
theorem condK_decT {p : Prop} [Decidable p] {a b : Prop} (h : p) (h1 : a) : condK (decide p) a b := condK_true (decide_eq_true h) h1
theorem condK_decF {p : Prop} [Decidable p] {a b : Prop} (h : ¬p) (h1 : b) : condK (decide p) a b := condK_false (decide_eq_false h) h1
theorem reqK_dec {p : Prop} [Decidable p] {a : Prop} (h : p) (ha : a) : reqK (decide p) a := reqK_of (decide_eq_true h) ha
theorem reqK_and {b c : Bool} {a : Prop} (h : reqK b (reqK c a)) : reqK (b && c) a := by
  obtain ⟨h1, h2⟩ := reqK_elim h
  obtain ⟨h3, h4⟩ := reqK_elim h2
  exact reqK_of (by simp [h1, h3]) h4
theorem reqK_not {p : Prop} [Decidable p] {a : Prop} (h : ¬p) (ha : a) : reqK (!decide p) a := reqK_of (by simp [h]) ha
theorem reqK_t {a : Prop} (ha : a) : reqK true a := reqK_of rfl ha
theorem pickK_t {a b : Value} {K : Value → Prop} (h : K a) : pickK true a b K := pickK_true rfl h
theorem pickK_f {a b : Value} {K : Value → Prop} (h : K b) : pickK false a b K := pickK_false rfl h
theorem pickK_decT {p : Prop} [Decidable p] {a b : Value} {K : Value → Prop} (hp : p) (h : K a) : pickK (decide p) a b K := pickK_true (decide_eq_true hp) h
theorem pickK_decF {p : Prop} [Decidable p] {a b : Value} {K : Value → Prop} (hp : ¬p) (h : K b) : pickK (decide p) a b K := pickK_false (decide_eq_false hp) h
end
end Go.Abs
