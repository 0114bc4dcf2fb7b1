/- A law's row, from the walk of the law. -/
import Derived.Test.YtbmbabgkpcnppaaAbsRow
set_option linter.all false
namespace Go.Abs
open Go Go.Deep Go.WideShapes Go.ChangeShapes Go.RowKit

/-- no reading is longer than memory -/
def SmallArgs {DH : Type} (P : Program) (ts : List TypeId) (ds : List (DataW DH)) : Prop := (DataW.weightsEach P ts ds).all (· ≤ reachBytes) = true

theorem law_returns {DH : Type} {enc : TypeId × Value → DH} {C : Checked} {os : Os} {fid : FuncId} {fn : Func} {s : ChangeSpec} {tt : Tab} {m : Nat} {tb : TypeId}
    (own : ownKnob C.prog.godebug = none) (started : os.Started) (noInit : C.prog.inits.idxOf? fid = none) (hfn : C.prog.funcs[fid]? = some fn)
    (witness : ∃ (w : World) (tape : Tape) (i : Input), w.os = os ∧ (w.forCall tape i).Shaped C.prog ∧ i.vars = [] ∧ Input.okWide C.prog (w.forCall tape i) .any w.heap.size fid i ∧
      s.pre6 enc C.prog fn [] false (w.forCall tape i).memory i.args ∧ Assume.holds {} C.prog (lone (Frame.enter C.prog fid i.args .normal) [] (w.forCall tape i)))
    (hT : TyOk C.prog tt) (hheap : Nat.blt C.prog.globals.size (begin C.prog (fun _ _ => 0) default).world.heap.size = true)
    (hv : s.vars = []) (hd : (fn.params.toList.all (dataTy tt m)) = true) (hr : fn.resultTypes = #[tb]) (hb : C.prog.underlying tb = some .bool)
    (hs : ∀ ds : List (DataW DH), ds.length = fn.params.toList.length → (s.fn DH ds).results = [.lit (.bool true)] ∧ (s.fn DH ds).args = ds ∧ (s.fn DH ds).vars = [])
    (hlaw : ∀ (ds : List (DataW DH)) H vs, SmallArgs C.prog fn.params.toList ds → ReadsArgs tt H fn.params.toList vs ds → ACall C.prog fid vs H (fun e _ => e = .returned (.bool true))) :
    ReturnsInHanded {} C os fid .any (s.pre6 enc C.prog fn [] false) (s.post enc C.prog fn false true false false) := by
  refine returnsInHanded_of_calls own started noInit witness ?_
  intro w tape i _ hsh _ hok hpre _
  obtain ⟨_, _, _, fn', hfn', _, _, _, _, hval⟩ := hok
  have e : fn' = fn := Option.some.inj (hfn'.symm.trans hfn)
  subst e
  obtain ⟨⟨ds, gs, before, hw, hc⟩, hz⟩ := hpre
  have hw' := DataW.Whole.of_heap (w' := w.forCall tape i) (by rfl) hw
  have hsm := hz.weights hw
  have hd' : ∀ t ∈ fn'.params.toList, dataTy tt m t = true := List.all_eq_true.1 hd
  have h0 : 0 < (w.forCall tape i).heap.size := by
    obtain ⟨o, _, h1, _⟩ := hsh.2 C.prog.globals.size (Nat.le_refl _) (by simpa [Nat.blt_eq] using hheap)
    have := (Array.getElem?_eq_some_iff.1 h1).1
    omega
  obtain ⟨p, q, h1, h2, h3, h4, h5⟩ := id hw'
  have hgs : gs = [] := by
    rw [hv] at h2
    cases gs with
    | nil => rfl
    | cons _ _ => simp [DataW.TrodVars] at h2
  subst hgs
  have hlen := trodAll_len h1
  have hvt : (OpenSpec.ofChange s).bare.plain.varTypes C.prog = [] := by
    simp [OpenSpec.ofChange, OpenSpec.bare, ChangeSpec.plain, DataSpec.varTypes, hv]
  refine (law_calls (f := fid) hT h0 (r := .any) (base := w.heap.size) hd' (fun j t v a b => hval j t v (by simpa using a) b) h1 (fun H vs hr => hlaw ds H vs ?_ hr)).mono fun e W' ⟨he, hk⟩ => ?_
  · unfold SmallArgs
    rw [hvt, List.append_nil, List.append_nil] at hsm
    exact hsm
  · subst he
    exact ChangeSpec.post_blind (law_post hT hv hd' hr hb (by rw [List.append_nil]; exact hs ds hlen) hw' hk)
theorem readsArgs_cons {DH : Type} {tt : Tab} {H : AHeap} {t : TypeId} {ts : List TypeId} {vs : List Value} {ds : List (DataW DH)} (h : ReadsArgs tt H (t :: ts) vs ds) :
    ∃ v vs' d ds', vs = v :: vs' ∧ ds = d :: ds' ∧ ReadsArg tt H t v d ∧ ReadsArgs tt H ts vs' ds' := by
  cases vs with
  | nil => cases ds <;> exact h.elim
  | cons v vs => cases ds with
    | nil => exact h.elim
    | cons d ds => exact ⟨v, vs, d, ds, rfl, rfl, h.1, h.2⟩
theorem readsArgs_nil {DH : Type} {tt : Tab} {H : AHeap} {vs : List Value} {ds : List (DataW DH)} (h : ReadsArgs tt H [] vs ds) : vs = [] := by
  cases vs with
  | nil => rfl
  | cons v vs => cases ds <;> exact h.elim
end Go.Abs
