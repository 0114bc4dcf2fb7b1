/- Soundness: slicing; the whole table. -/
import Derived.Test.YtbmbabgkpcnppaaAbsMap
import Derived.Laws.Tables
set_option linter.all false
namespace Go.Abs
open Go

section
variable {P : Program} {tt : Tab} {w0 : World} {E : Env} {H : AHeap} {w : World} {k : Value → AHeap → Prop} {t : List Value} {t' : Array Value}

/-- a bound: the same number -/
def BRel (E : Env) (o o' : Option Value) : Prop := match o, o' with | none, none => True | some v, some v' => VRel E v v' | _, _ => False
theorem low_elim {o o' : Option Value} (h : BRel E o o') {k : Int → Prop} (hk : lowK o k) : ∃ i, k i ∧ ((o' = none ∧ i = 0) ∨ ∃ kk, o' = some (.int kk i)) := by
  unfold lowK at hk
  split at hk
  · cases o' with
    | none => exact ⟨0, hk, .inl ⟨rfl, rfl⟩⟩
    | some v => exact h.elim
  · cases o' with
    | none => exact h.elim
    | some v => cases h; exact ⟨_, hk, .inr ⟨_, rfl⟩⟩
  · exact hk.elim
theorem high_elim {o o' : Option Value} (h : BRel E o o') {d : Nat} {k : Int → Prop} (hk : highK o d k) : ∃ i, k i ∧ ((o' = none ∧ i = d) ∨ ∃ kk, o' = some (.int kk i)) := by
  unfold highK at hk
  split at hk
  · cases o' with
    | none => exact ⟨d, hk, .inl ⟨rfl, rfl⟩⟩
    | some v => exact h.elim
  · cases o' with
    | none => exact h.elim
    | some v => cases h; exact ⟨_, hk, .inr ⟨_, rfl⟩⟩
  · exact hk.elim

theorem sliceBounds_run {b : Bool} {len cap : Nat} {lo hi : Option Value} {l h : Int} (hl : (lo = none ∧ l = 0) ∨ ∃ kk, lo = some (.int kk l)) (hh : (hi = none ∧ h = len) ∨ ∃ kk, hi = some (.int kk h))
    (h0 : 0 ≤ l) (h1 : l ≤ h) (h2 : h ≤ cap) : (Instr.sliceBounds b len cap lo hi none).run P w = .ok (l.toNat, h.toNat, cap) w := by
  have e1 : ((h.toNat : Nat) : Int) = h := by omega
  rcases hl with ⟨rfl, rfl⟩ | ⟨k1, rfl⟩ <;> rcases hh with ⟨rfl, rfl⟩ | ⟨k2, rfl⟩
  · simp [Instr.sliceBounds]
  · have : 0 ≤ h ∧ h ≤ (cap : Int) := ⟨by omega, h2⟩
    simp [Instr.sliceBounds, Instr.sliceBound, asIntOf, this]
  · have : 0 ≤ l ∧ l ≤ ((len : Nat) : Int) := ⟨h0, h1⟩
    simp [Instr.sliceBounds, Instr.sliceBound, asIntOf, this]
  · have a1 : 0 ≤ h ∧ h ≤ (cap : Int) := ⟨by omega, h2⟩
    have a2 : 0 ≤ l ∧ l ≤ h := ⟨h0, h1⟩
    simp [Instr.sliceBounds, Instr.sliceBound, asIntOf, a1, e1, a2]

theorem dec3 {a b c : Prop} [Decidable a] [Decidable b] [Decidable c] (h : (decide a && decide b && decide c) = true) : a ∧ b ∧ c := by
  simp at h; exact ⟨h.1.1, h.1.2, h.2⟩

theorem sliceK_sound (hT : TyOk P tt) (h : Rel w0 E H w) {ty : Nat} {x x' : Value} (hx : VRel E x x') {lo hi lo' hi' : Option Value} (hlo : BRel E lo lo') (hhi : BRel E hi hi') (hk : sliceK tt ty x lo hi H k) :
    OutV P w0 E (Instr.sliceAt ty x' lo' hi' none) w k := by
  obtain ⟨te, hty, hk1⟩ := tyK_elim hk
  clear hk
  have hd : te.d ≠ .other := by intro e; rw [e] at hk1; exact hk1
  obtain ⟨d, hu, hdk⟩ := run_und (w := w) hT hty hd
  cases hed : te.d <;> simp only [hed] at hk1 <;> simp only [hed, DOk] at hdk
  case string =>
    subst hdk
    cases hx <;> first | exact hk1.elim | skip
    obtain ⟨l, hk2, hl⟩ := low_elim hlo hk1
    obtain ⟨u, hk3, hh⟩ := high_elim hhi hk2
    obtain ⟨hb, hk4⟩ := reqK_elim hk3
    obtain ⟨b1, b2, b3⟩ := dec3 hb
    refine OutV.of h hk4 ?_ (.string _)
    simp [Instr.sliceAt, hu, Instr.slice, sliceBounds_run (P := P) (w := w) (b := false) hl hh b1 b2 b3]
  case slice e =>
    subst hdk
    obtain ⟨ee, hee, hk2⟩ := tyK_elim hk1
    clear hk1
    cases hx with
    | slice i off len cap hlt =>
      obtain ⟨l, hk3, hl⟩ := low_elim hlo hk2
      obtain ⟨u, hk4, hh⟩ := high_elim hhi hk3
      obtain ⟨hb, hk5⟩ := reqK_elim hk4
      obtain ⟨b1, b2, b3⟩ := dec3 hb
      obtain ⟨hde, hk6⟩ := okK_elim hk5
      have hsz := run_sizeOf (w := w) hT hee hde
      refine ⟨_, H, E, .slice (if cap + E.s i = l.toNat then some ⟨E.b i, E.d i + off, none⟩ else (some (⟨E.b i, E.d i + off, none⟩ : Addr)).map (·.add (l.toNat * ee.size))) (u.toNat - l.toNat) (cap + E.s i - l.toNat), w, hk6, ?_, Ext.refl E, h, ?_⟩
      · simp [Instr.sliceAt, hu, Instr.slice, sliceBounds_run (P := P) (w := w) (b := true) (cap := cap + E.s i) hl hh b1 b2 (by omega), hsz]
      · split
        · rename_i hz
          have : u.toNat - l.toNat = 0 := by omega
          rw [this, show cap + E.s i - l.toNat = 0 by omega, show cap - l.toNat = 0 by omega]
          exact .slice0 i _ _ hlt (by omega)
        · rw [Option.map_some, add_mk, Nat.add_assoc, show cap + E.s i - l.toNat = (cap - l.toNat) + E.s i by omega]
          exact .slice i _ _ _ hlt
    | slice0 i off x0 hlt hs0 =>
      obtain ⟨l, hk3, hl⟩ := low_elim hlo hk2
      obtain ⟨u, hk4, hh⟩ := high_elim hhi hk3
      obtain ⟨hb, hk5⟩ := reqK_elim hk4
      obtain ⟨b1, b2, b3⟩ := dec3 hb
      obtain ⟨hde, hk6⟩ := okK_elim hk5
      have hsz := run_sizeOf (w := w) hT hee hde
      have z1 : l.toNat = 0 := by omega
      have z2 : u.toNat = 0 := by omega
      refine ⟨_, H, E, .slice (some x0) 0 0, w, hk6, ?_, Ext.refl E, h, ?_⟩
      · simp [Instr.sliceAt, hu, Instr.slice, sliceBounds_run (P := P) (w := w) (b := true) (cap := 0) hl hh b1 b2 b3, hsz, z1, z2]
      · rw [z1, z2]; simp; exact .slice0 i _ _ hlt hs0
    | sliceNil =>
      obtain ⟨l, hk3, hl⟩ := low_elim hlo hk2
      obtain ⟨u, hk4, hh⟩ := high_elim hhi hk3
      obtain ⟨hb, hk5⟩ := reqK_elim hk4
      have hb' : l = 0 ∧ u = 0 := by simpa using hb
      obtain ⟨rfl, rfl⟩ := hb'
      obtain ⟨hde, hk6⟩ := okK_elim hk5
      have hsz := run_sizeOf (w := w) hT hee hde
      refine OutV.of h hk6 ?_ .sliceNil
      simp [Instr.sliceAt, hu, Instr.slice, sliceBounds_run (P := P) (w := w) (b := true) (cap := 0) (len := 0) hl hh (by omega) (by omega) (by omega), hsz]
    | _ => exact hk2.elim

theorem maxes_run {kk : IntKind} : ∀ (vs vs' : List Value) (m : Int) {K : Int → Prop}, LRel E vs vs'.toArray → maxesK m vs K → ∃ r, K r ∧ (vs'.foldlM Builtin.max2 (.int kk m)).run P w = .ok (.int kk r) w
  | [], [], m, K, _, h => ⟨m, h, rfl⟩
  | v :: l, v' :: a, m, K, hr, h => by
    have h0 : VRel E v v' := by have := hr.get 0 (by simp); simpa using this
    have h1 : LRel E l a.toArray := ⟨by have := hr.size; simpa using this, fun i hi => by have := hr.get (i + 1) (by simp; omega); simpa [Array.getD_eq_getD_getElem?] using this⟩
    cases h0 with
    | int k2 y =>
      obtain ⟨r, p, q⟩ := maxes_run (kk := kk) l a (max m y) h1 h
      refine ⟨r, p, ?_⟩
      have : (if y > m then y else m) = max m y := by omega
      simp [Builtin.max2, this, q]
    | _ => exact h.elim
  | [], _ :: _, _, _, hr, _ => by have := hr.size; simp at this
  | _ :: _, [], _, _, hr, _ => by have := hr.size; simp at this
theorem mins_run {kk : IntKind} : ∀ (vs vs' : List Value) (m : Int) {K : Int → Prop}, LRel E vs vs'.toArray → minsK m vs K → ∃ r, K r ∧ (vs'.foldlM Builtin.min2 (.int kk m)).run P w = .ok (.int kk r) w
  | [], [], m, K, _, h => ⟨m, h, rfl⟩
  | v :: l, v' :: a, m, K, hr, h => by
    have h0 : VRel E v v' := by have := hr.get 0 (by simp); simpa using this
    have h1 : LRel E l a.toArray := ⟨by have := hr.size; simpa using this, fun i hi => by have := hr.get (i + 1) (by simp; omega); simpa [Array.getD_eq_getD_getElem?] using this⟩
    cases h0 with
    | int k2 y =>
      obtain ⟨r, p, q⟩ := mins_run (kk := kk) l a (min m y) h1 h
      refine ⟨r, p, ?_⟩
      have : (if y < m then y else m) = min m y := by omega
      simp [Builtin.min2, this, q]
    | _ => exact h.elim
  | [], _ :: _, _, _, hr, _ => by have := hr.size; simp at this
  | _ :: _, [], _, _, hr, _ => by have := hr.size; simp at this

theorem mapM_some {α β : Type} {f : α → Option β} {g : α → β} : ∀ (l : List α), (∀ x ∈ l, f x = some (g x)) → l.mapM f = some (l.map g)
  | [], _ => by simp
  | x :: l, h => by simp [List.mapM_cons, h x (by simp), mapM_some l (fun y hy => h y (by simp [hy]))]
theorem cellsOf_eq (hT : TyOk P tt) {ty : Nat} {te : TE} (hty : tt[ty]? = some te) (hd : te.d ≠ .other) : P.cellsOf ty = te.size := by
  obtain ⟨i, h1, h2, _⟩ := (hT ty te hty hd).info
  simp [Program.cellsOf, h1, h2]
theorem pair_map (ps : Array (Nat × Operand)) (ρ : Operand → Value) : (ps.map fun (i, x) => (i, ρ x)).toList = ps.toList.map fun (i, x) => (i, ρ x) := by simp

theorem sure_nilAhead {P : Program} {t : TypeId} {m : String} (h : sureMeth P t m = true) (v : Value) (w : World) (n : Nat) : (nilAhead (n + 1) t v m).run P w = .ok (some false) w := by
  unfold sureMeth at h
  split at h
  · rename_i i hi
    split at h
    · rename_i r hr
      split at h
      · rename_i g ptr hpath hfunc
        have hpe : r.path.toList = [] := by simpa using hpath
        rw [nilAhead]
        cases ptr with
        | true => simp [Sem.run_bind, typeInfo, hi, hr, hpe, followBlind, hfunc]
        | false =>
          split at h
          · exact absurd h (by simp)
          · rename_i d hn hd
            cases d <;> first | (exact absurd rfl (hn _)) | simp [Sem.run_bind, typeInfo, hi, hr, hpe, followBlind, hfunc, underlying, hd]
          · exact absurd h (by simp)
      · exact absurd h (by simp)
    · exact absurd h (by simp)
  · exact absurd h (by simp)
theorem primK_sound (hT : TyOk P tt) (h : Rel w0 E H w) (hr : LRel E t t') (o : Oper) (hk : primK tt o.op t H k) : Outc P w0 E (execOp (evalC t') o) w k := by
  obtain ⟨dst, op, type, pos, after, guard⟩ := o
  simp only at hk
  cases op <;> simp only [primK] at hk <;> simp only [execOp]
  case move x =>
    obtain ⟨v, h1, h2⟩ := evalK_elim hr hk
    exact ⟨v, H, E, _, w, h1, .inl rfl, Ext.refl E, h, h2⟩
  case assign x =>
    obtain ⟨v, h1, h2⟩ := evalK_elim hr hk
    exact ⟨v, H, E, _, w, h1, .inl rfl, Ext.refl E, h, h2⟩
  case pick c a b =>
    obtain ⟨vc, h1, hc⟩ := evalK_elim hr hk
    obtain ⟨va, h2, ha⟩ := evalK_elim hr h1
    obtain ⟨vb, h3, hb⟩ := evalK_elim hr h2
    split at h3
    · rename_i cb
      have h4 := pickK_elim h3
      generalize hce : evalC t' c = c' at hc
      cases hc
      refine ⟨_, H, E, (if cb = true then evalC t' a else evalC t' b), w, h4, .inl (by simp [asBool]), Ext.refl E, h, ?_⟩
      cases cb
      · exact hb
      · exact ha
    · exact h3.elim
  case alloc e =>
    obtain ⟨te, ht, h1⟩ := tyK_elim hk
    obtain ⟨hd, h2⟩ := okK_elim h1
    obtain ⟨z1, z2, z3, z4⟩ := zero_rel hT ht hd E
    have := newVar_out (P := P) h z2 z4 e 0 h2
    refine OutV.out ?_
    obtain ⟨v, H', E', v', w', a1, a2, a3⟩ := this
    exact ⟨v, H', E', v', w', a1, by simpa [Instr.alloc, run_zeroValue hT ht hd] using a2, a3⟩
  case box e x =>
    obtain ⟨v, h1, hv⟩ := evalK_elim hr hk
    obtain ⟨cs, h2, hc, ho⟩ := cellsK_elim hv h1
    exact OutV.out (newVar_out (P := P) h hc ho e 0 h2)
  case build ty ps =>
    obtain ⟨vs, h1, hp⟩ := evalPK_elim hr hk
    obtain ⟨te, ht, h2⟩ := tyK_elim h1
    have hd : te.d ≠ .other := by intro e; rw [e] at h2; exact h2
    obtain ⟨z1, z2, z3, z4⟩ := zero_rel hT ht hd E
    obtain ⟨d, hu, hdk⟩ := run_und (w := w) hT ht hd
    cases hed : te.d <;> simp only [hed] at h2 <;> simp only [hed, DOk] at hdk
    case struct fs =>
      obtain ⟨gs, rfl, hf1, hf2⟩ := hdk
      have hinf := (hT ty te ht hd).infos
      rw [hed] at hinf
      simp only [allInfo, List.all_eq_true] at hinf
      have hplaces : gs.toList.mapM (fun f => (P.info? f.type).map fun i => (f.offset, i.size)) = some (gs.toList.map fun f => (f.offset, P.cellsOf f.type)) := by
        refine mapM_some _ fun f hf => ?_
        obtain ⟨j, hj⟩ := List.getElem?_of_mem hf
        have hjl : j < fs.length := by have := (List.getElem?_eq_some_iff.1 hj).1; simp at this; omega
        obtain ⟨g, hg1, hg2, hg3⟩ := hf2 j fs[j].1 fs[j].2 (by simp [hjl])
        have : g = f := by have hj' : gs[j]? = some f := by simpa using hj
                           rw [hj'] at hg1; cases hg1; rfl
        subst this
        have hs := hinf fs[j] (List.getElem_mem _)
        rw [← hg3] at hs
        obtain ⟨inf, hinf'⟩ := Option.isSome_iff_exists.1 hs
        simp [hinf', Program.cellsOf]
      have hpl : ∀ (i : Nat) o ty', fs[i]? = some (o, ty') → ∀ te', tt[ty']? = some te' → te'.d ≠ .other → (gs.toList.map fun f => (f.offset, P.cellsOf f.type)).toArray[i]? = some (o, te'.size) := by
        intro i o ty' hf te' hte' hdo
        obtain ⟨g, hg1, hg2, hg3⟩ := hf2 i o ty' hf
        simp [hg1, hg2, hg3, cellsOf_eq hT hte' hdo]
      obtain ⟨ds, ds', g1, g2, g3, g4⟩ := fillSK_elim hT hpl hp z2 z4 h2
      obtain ⟨inf, hi1, hi2, hi3, hi4⟩ := (hT ty te ht hd).info
      have hu' : P.underlying ty = some (.struct gs) := by
        obtain ⟨d2, q1, q2⟩ := (hT ty te ht hd).und
        have : (underlying ty).run P w = .ok d2 w := by simp [underlying, q1]
        rw [this] at hu; cases hu; exact q1
      refine OutV.out (OutV.of h g1 (v' := .agg ds') ?_ ?_)
      · apply run_build
        unfold Program.built
        simp only [hi1, hu', hi4, hplaces]
        simpa using g4
      · exact .agg _ _ g2.toArray.size g2.toArray.get
    case arr n e =>
      subst hdk
      obtain ⟨ee, hee, h3⟩ := tyK_elim h2
      obtain ⟨hde, h4⟩ := okK_elim h3
      obtain ⟨ds, ds', g1, g2, g3, g4⟩ := fillAK_elim hp z2 z4 h4
      have hsz := run_sizeOf (w := w) hT hee hde
      refine OutV.out (OutV.of h g1 (v' := .agg ds') ?_ ?_)
      · simp [Instr.build, run_zeroValue hT ht hd, hu, hsz, g4]
      · exact .agg _ _ g2.toArray.size g2.toArray.get
  case buildSlice ty n ps =>
    obtain ⟨vs, h1, hp⟩ := evalPK_elim hr hk
    obtain ⟨te, ht, h2⟩ := tyK_elim h1
    have hd : te.d ≠ .other := by intro e; rw [e] at h2; exact h2
    obtain ⟨d, hu, hdk⟩ := run_und (w := w) hT ht hd
    cases hed : te.d <;> simp only [hed] at h2 <;> simp only [hed, DOk] at hdk
    case slice e =>
      subst hdk
      obtain ⟨ee, hee, h3⟩ := tyK_elim h2
      obtain ⟨hde, h4⟩ := okK_elim h3
      obtain ⟨h5, _, h6⟩ := bothK_elim h4
      have h5' := Nat.le_of_ble_eq_true h5
      obtain ⟨z1, z2, z3, z4⟩ := zero_rel hT hee hde E
      have hsz := run_sizeOf (w := w) hT hee hde
      have hzv := run_zeroValue (w := w) hT hee hde
      have hzr := zeroRow_rel z2 n
      rw [z3] at hzr
      have hones : Ones ((Array.range (n * ee.size)).map (ee.zero.cells[· % ee.size]!)) := by
        rw [← z3]; exact zeroRow_ones z4 n
      obtain ⟨ds, ds', g1, g2, g3, g4⟩ := fillAK_elim hp hzr hones h6
      have hbig : ¬ (n * ee.size > 2 ^ 24) := by have : (2 : Nat) ^ 24 = 16777216 := by decide
                                                 omega
      have := newSlice_out (P := P) h g2 g3 e ee.size n n g1
      refine OutV.out ?_
      obtain ⟨v, H', E', v', w', a1, a2, a3⟩ := this
      refine ⟨v, H', E', v', w', a1, ?_, a3⟩
      by_cases hz : n * ee.size = 0
      · have e0 : ∀ f : Nat → Value, (Array.range 0).map f = #[] := fun f => by simp [Array.range]
        have hb0 : ¬ ((0 : Nat) > 2 ^ 24) := by decide
        rw [hz, e0] at g4
        simp only [Instr.buildSlice, Sem.run_bind, hu, hsz, Result.andThen_ok, hz, hb0, if_false, ↓reduceIte, Sem.run_pure, e0, pair_map, g4]
        exact a2
      · simp only [Instr.buildSlice, Sem.run_bind, hu, hsz, Result.andThen_ok, hbig, if_false, hz, hzv, Sem.run_pure, z3, pair_map, g4]
        exact a2
  case load ty x =>
    obtain ⟨v, h1, hv⟩ := evalK_elim hr hk
    generalize evalC t' x = v' at hv
    cases hv with
    | ptr i off hlt =>
      obtain ⟨te, ht, h2⟩ := tyK_elim h1
      obtain ⟨hd, h3⟩ := okK_elim h2
      exact OutV.out (by simpa [OutV, Instr.loadAt, Instr.sureAddr] using readK_sound hT h ht hd h3)
    | _ => exact h1.elim
  case store ty x y =>
    obtain ⟨v, h1, hv⟩ := evalK_elim hr hk
    obtain ⟨u, h2, hu⟩ := evalK_elim hr h1
    generalize evalC t' x = v' at hv
    cases hv with
    | ptr i off hlt =>
      obtain ⟨te, ht, h3⟩ := tyK_elim h2
      obtain ⟨hd, h4⟩ := okK_elim h3
      exact OutU.out (by simpa [OutU, Instr.storeAt, Instr.sureAddr] using writeK_sound hT h ht hd hu h4)
    | _ => exact h2.elim
  case nilCheck x =>
    obtain ⟨v, h1, hv⟩ := evalK_elim hr hk
    generalize evalC t' x = v' at hv ⊢
    cases hv <;> first | exact h1.elim | skip
    case ptr i off hlt => exact ⟨_, H, E, _, w, h1, .inl rfl, Ext.refl E, h, .ptr _ _ hlt⟩
    case sliceNil => exact ⟨_, H, E, _, w, h1, .inl rfl, Ext.refl E, h, .sliceNil⟩
    case slice a off len cap hlt => exact ⟨_, H, E, _, w, h1, .inl rfl, Ext.refl E, h, .slice _ _ _ _ hlt⟩
    case slice0 a off x0 hlt hs => exact ⟨_, H, E, _, w, h1, .inl rfl, Ext.refl E, h, .slice0 _ _ _ hlt hs⟩
    case func fn fs fs' cs cs' hf g1 g2 g3 g4 =>
      cases fn <;> first | exact h1.elim | skip
      case method m =>
        simp only at h1
        split at h1
        · rename_i u y rest ha
          obtain ⟨te, ht, h2⟩ := tyK_elim h1
          obtain ⟨hd, h3⟩ := okK_elim h2
          obtain ⟨hm, _, h4⟩ := bothK_elim h3
          have hsz : 0 < fs.size := by have := congrArg List.length ha; simp at this; omega
          have h0 : fs.getD 0 undef = .iface u y := by
            have e : fs.toList[0]? = some (.iface u y) := by rw [ha]; rfl
            simp [Array.getD, hsz]
            simpa [hsz] using e
          have hv0 := g3 0 hsz
          rw [h0] at hv0
          obtain ⟨y', hy', hyr⟩ : ∃ y', fs'[0]? = some (.iface u y') ∧ VRel E y y' := by
            have hsz' : 0 < fs'.size := by omega
            have e : fs'.getD 0 undef = fs'[0] := by simp [Array.getD, hsz']
            rw [e] at hv0
            generalize hz : fs'[0] = z at hv0
            cases hv0 with
            | iface _ _ y' hy => exact ⟨y', by simp [hsz', hz], hy⟩
          have hs := (hT u te ht hd).meths m (by simpa using hm)
          have hn := sure_nilAhead hs y' w (P.types.size + 99)
          refine ⟨_, H, E, .func (.method m) fs' cs', w, h4, ?_, Ext.refl E, h, .func (.method m) _ _ _ _ hf g1 g2 g3 g4⟩
          left
          have hd2 : P.types.size + Made.depth = P.types.size + 99 + 1 := rfl
          have hn2 : (nilAhead (P.types.size + Made.depth) u y' m).run P w = .ok (some false) w := by rw [hd2]; exact hn
          simp only [fnMap, hy', Sem.run_bind]
          simp [hn2]
        · exact h1.elim
      · exact ⟨_, H, E, _, w, h1, .inl rfl, Ext.refl E, h, .func _ _ _ _ _ hf g1 g2 g3 g4⟩
      · exact ⟨_, H, E, _, w, h1, .inl rfl, Ext.refl E, h, .func _ _ _ _ _ hf g1 g2 g3 g4⟩
    case iface u y y' hy => exact ⟨_, H, E, _, w, h1, .inl rfl, Ext.refl E, h, .iface _ _ _ hy⟩
  case binOp op ty x y yt =>
    obtain ⟨a, h1, ha⟩ := evalK_elim hr hk
    obtain ⟨b, h2, hb⟩ := evalK_elim hr h1
    exact OutV.out (binK_sound hT h ha hb h2)
  case unOp op ty x =>
    obtain ⟨v, h1, hv⟩ := evalK_elim hr hk
    generalize evalC t' x = v' at hv ⊢
    cases op <;> first | exact h1.elim | skip
    case neg =>
      cases hv <;> first | exact h1.elim | skip
      exact OutV.out (OutV.of h (intK_elim h1) (by simp [Op.unary, Op.intArith]) (.int _ _))
    case xor =>
      cases hv <;> first | exact h1.elim | skip
      exact OutV.out (OutV.of h h1 (by simp [Op.unary, Op.intBits, bitsOf]) (.int _ _))
    case not =>
      cases hv <;> first | exact h1.elim | skip
      exact OutV.out (OutV.of h h1 (by simp [Op.unary]) (.bool _))
  case convert src dst x =>
    obtain ⟨v, h1, hv⟩ := evalK_elim hr hk
    exact OutV.out (convK_sound hT h hv h1)
  case makeInterface ty x =>
    obtain ⟨v, h1, hv⟩ := evalK_elim hr hk
    obtain ⟨te, ht, h2⟩ := tyK_elim h1
    obtain ⟨hd, h3⟩ := okK_elim h2
    obtain ⟨hi, _, h4⟩ := bothK_elim h3
    obtain ⟨d, hu, hdk⟩ := run_und (w := w) hT ht hd
    refine OutV.out (OutV.of h h4 (v' := .iface ty (evalC t' x)) ?_ (.iface _ _ _ hv))
    have : ∀ ms, d ≠ .interface ms := by
      intro ms e
      subst e
      cases hed : te.d <;> simp only [hed, DOk] at hdk <;> first | (simp [hed, TD.isIface] at hi; done) | (simp at hdk; done) | skip
      · exact hd hed
    simp only [Instr.makeInterface, Sem.run_bind, hu, Result.andThen_ok]
    cases d <;> first | rfl | (exact absurd rfl (this _))
  case makeFunc fn fs cs =>
    obtain ⟨a, h1, ha⟩ := evalsK_elim hr hk
    obtain ⟨b, h2, hb⟩ := evalsK_elim hr h1
    split at h2
    · rename_i f
      refine ⟨_, H, E, .func (.func f) (fs.map (evalC t')) (cs.map (evalC t')), w, h2, .inl rfl, Ext.refl E, h, ?_⟩
      have ha' : ARel E a.toArray (fs.map (evalC t')) := by have := ha.toArray; rwa [← Array.toList_map, Array.toArray_toList] at this
      have hb' : ARel E b.toArray (cs.map (evalC t')) := by have := hb.toArray; rwa [← Array.toList_map, Array.toArray_toList] at this
      exact .func (.func f) _ _ _ _ trivial ha'.size hb'.size ha'.get hb'.get
    · rename_i m
      refine ⟨_, H, E, .func (.method m) (fs.map (evalC t')) (cs.map (evalC t')), w, h2, .inl rfl, Ext.refl E, h, ?_⟩
      have ha' : ARel E a.toArray (fs.map (evalC t')) := by have := ha.toArray; rwa [← Array.toList_map, Array.toArray_toList] at this
      have hb' : ARel E b.toArray (cs.map (evalC t')) := by have := hb.toArray; rwa [← Array.toList_map, Array.toArray_toList] at this
      exact .func (.method m) _ _ _ _ trivial ha'.size hb'.size ha'.get hb'.get
    · exact h2.elim
  case makeSlice ty l c =>
    obtain ⟨vl, h1, hl⟩ := evalK_elim hr hk
    obtain ⟨vc, h2, hc⟩ := evalK_elim hr h1
    generalize evalC t' l = l' at hl ⊢
    generalize evalC t' c = c' at hc ⊢
    cases hl with
    | int k1 li =>
      cases hc with
      | int k2 ci =>
        obtain ⟨te, ht, h3⟩ := tyK_elim h2
        have hd : te.d ≠ .other := by intro e; rw [e] at h3; exact h3
        obtain ⟨d, hu, hdk⟩ := run_und (w := w) hT ht hd
        cases hed : te.d <;> simp only [hed] at h3 <;> simp only [hed, DOk] at hdk
        case slice e =>
          subst hdk
          obtain ⟨ee, hee, h4⟩ := tyK_elim h3
          obtain ⟨hde, h5⟩ := okK_elim h4
          obtain ⟨hb, h6⟩ := reqK_elim h5
          obtain ⟨b1, b2, b3⟩ := dec3 hb
          obtain ⟨z1, z2, z3, z4⟩ := zero_rel hT hee hde E
          have hsz := run_sizeOf (w := w) hT hee hde
          have hzv := run_zeroValue (w := w) hT hee hde
          obtain ⟨ti, hti, htb, _⟩ := run_typeInfo (w := w) hT hee hde
          have hzr := zeroRow_rel z2 ci.toNat
          have hones := zeroRow_ones z4 ci.toNat
          rw [z3] at hzr hones
          have hcn : ((ci.toNat : Nat) : Int) = ci := by omega
          have hcb : ci.toNat * (ee.bytes + 1) ≤ 35184372088832 := by
            have : ((ci.toNat * (ee.bytes + 1) : Nat) : Int) ≤ 35184372088832 := by
              rw [Int.natCast_mul, hcn, Int.natCast_add]; exact b3
            omega
          have hci : ci ≤ 35184372088832 := by
            have : ci.toNat ≤ ci.toNat * (ee.bytes + 1) := Nat.le_mul_of_pos_right _ (by omega)
            omega
          have wl : IntKind.i64.wrap li = li := wrap_in li (by omega) (by omega)
          have wc : IntKind.i64.wrap ci = ci := wrap_in ci (by omega) (by omega)
          have hbig : ¬ ((ti.bytes : Int) * ci > 2 ^ 48) := by
            have h1 : ci.toNat * ti.bytes ≤ ci.toNat * (ee.bytes + 1) := Nat.mul_le_mul_left _ (by omega)
            have h2 : (ti.bytes : Int) * ci = ((ci.toNat * ti.bytes : Nat) : Int) := by rw [Int.natCast_mul, hcn, Int.mul_comm]
            have : (2 : Int) ^ 48 = 281474976710656 := by decide
            omega
          have := newSlice_out (P := P) h hzr hones e ee.size li.toNat ci.toNat h6
          refine OutV.out ?_
          obtain ⟨v, H', E', v', w', a1, a2, a3⟩ := this
          refine ⟨v, H', E', v', w', a1, ?_, a3⟩
          have n1 : ¬ (ci < 0) := by omega
          have n2 : ¬ (li < 0) := by omega
          have n3 : ¬ (li > ci) := by omega
          by_cases hz : ci.toNat * ee.size = 0
          · have e0 : ∀ f : Nat → Value, (Array.range 0).map f = #[] := fun f => by simp [Array.range]
            rw [hz, e0] at a2
            simp only [Instr.makeSlice, Sem.run_bind, hu, Result.andThen_ok, asInt_run, hti, wl, wc, n1, n2, n3, hbig, decide_false, Bool.or_false, Bool.false_eq_true, if_false, run_askRoom, hsz, hz, ↓reduceIte, Sem.run_pure, e0]
            exact a2
          · simp only [Instr.makeSlice, Sem.run_bind, hu, Result.andThen_ok, asInt_run, hti, wl, wc, n1, n2, n3, hbig, decide_false, Bool.or_false, Bool.false_eq_true, if_false, run_askRoom, hsz, hz, hzv, Sem.run_pure, z3]
            exact a2
      | _ => exact h2.elim
    | _ => exact h2.elim
  case slice ty x lo hi mx =>
    cases mx with
    | some m => exact hk.elim
    | none =>
      obtain ⟨v, h1, hv⟩ := evalK_elim hr hk
      obtain ⟨ol, h2, hol⟩ := optK_elim hr h1
      obtain ⟨oh, h3, hoh⟩ := optK_elim hr h2
      exact OutV.out (sliceK_sound hT h hv (by unfold BRel; exact hol) (by unfold BRel; exact hoh) h3)
  case fieldAddr ty x f =>
    obtain ⟨v, h1, hv⟩ := evalK_elim hr hk
    generalize evalC t' x = v' at hv ⊢
    cases hv with
    | ptr i off hlt =>
      obtain ⟨te, ht, h2⟩ := tyK_elim h1
      have hd : te.d ≠ .other := by intro e; rw [e] at h2; exact h2
      obtain ⟨d, hu, hdk⟩ := run_und (w := w) hT ht hd
      cases hed : te.d <;> simp only [hed] at h2 <;> simp only [hed, DOk] at hdk
      case struct fs =>
        obtain ⟨gs, rfl, hf1, hf2⟩ := hdk
        obtain ⟨⟨o, fty⟩, hf, h3⟩ := nthK_elim h2
        obtain ⟨fe, hfe, h4⟩ := tyK_elim h3
        obtain ⟨hfd, h5⟩ := okK_elim h4
        obtain ⟨g, hg, ho, hgt⟩ := hf2 f o fty hf
        split at h5
        · exact h5.elim
        · rename_i hz
          have hz' : fe.size ≠ 0 := fun e => by rw [e] at hz; simp at hz
          have hsz := run_sizeOf (w := w) hT hfe hfd
          rw [← hgt] at hsz
          refine OutV.out (OutV.of h h5 (v' := .pointer (some ⟨E.b i, E.d i + (off + o), none⟩)) ?_ (.ptr _ _ hlt))
          simp [Instr.fieldAt, hu, hg, Instr.sureAddr, fieldPlace, hsz, hz', add_mk, ho, Nat.add_assoc]
    | _ => exact h1.elim
  case field ty x f =>
    obtain ⟨v, h1, hv⟩ := evalK_elim hr hk
    generalize evalC t' x = v' at hv ⊢
    cases hv with
    | agg fs0 fs0' g1 g3 =>
      obtain ⟨te, ht, h2⟩ := tyK_elim h1
      have hd : te.d ≠ .other := by intro e; rw [e] at h2; exact h2
      obtain ⟨d, hu, hdk⟩ := run_und (w := w) hT ht hd
      cases hed : te.d <;> simp only [hed] at h2 <;> simp only [hed, DOk] at hdk
      case struct fs =>
        obtain ⟨gs, rfl, hf1, hf2⟩ := hdk
        obtain ⟨⟨o, fty⟩, hf, h3⟩ := nthK_elim h2
        obtain ⟨fe, hfe, h4⟩ := tyK_elim h3
        obtain ⟨hfd, h5⟩ := okK_elim h4
        obtain ⟨g, hg, ho, hgt⟩ := hf2 f o fty hf
        have := partK_sound (P := P) hT h hfe hfd (ARel.toList ⟨g1, g3⟩) h5
        refine OutV.out ?_
        obtain ⟨v, H', E', v', w', a1, a2, a3⟩ := this
        refine ⟨v, H', E', v', w', a1, ?_, a3⟩
        simp only [Instr.field, Sem.run_bind, hu, Result.andThen_ok, hg, asAgg, Sem.run_pure, ho, hgt]
        exact a2
    | _ => exact h1.elim
  case indexAddr ty x ix =>
    obtain ⟨v, h1, hv⟩ := evalK_elim hr hk
    obtain ⟨vi, h2, hi⟩ := evalK_elim hr h1
    generalize evalC t' x = v' at hv ⊢
    generalize evalC t' ix = i' at hi ⊢
    cases hi with
    | int ki i =>
      obtain ⟨te, ht, h3⟩ := tyK_elim h2
      have hd : te.d ≠ .other := by intro e; rw [e] at h3; exact h3
      obtain ⟨d, hu, hdk⟩ := run_und (w := w) hT ht hd
      cases hed : te.d <;> simp only [hed] at h3 <;> simp only [hed, DOk] at hdk
      case slice e =>
        subst hdk
        obtain ⟨ee, hee, h4⟩ := tyK_elim h3
        obtain ⟨hde, h5⟩ := okK_elim h4
        have hsz := run_sizeOf (w := w) hT hee hde
        cases hv with
        | slice b off len cap hlt =>
          obtain ⟨hb, h6⟩ := reqK_elim h5
          have hb' : 0 ≤ i ∧ i < len := by simpa using hb
          refine OutV.out (OutV.of h h6 (v' := .pointer (some ⟨E.b b, E.d b + (off + i.toNat * ee.size), none⟩)) ?_ (.ptr _ _ hlt))
          simp [Instr.indexAt, asIntOf, hu, hb', hsz, add_mk, Nat.add_assoc]
        | slice0 b off x0 hlt hs0 =>
          obtain ⟨hb, h6⟩ := reqK_elim h5
          have hb' : 0 ≤ i ∧ i < (0 : Nat) := by simpa using hb
          omega
        | _ => exact h5.elim
      case arr n e =>
        subst hdk
        obtain ⟨ee, hee, h4⟩ := tyK_elim h3
        obtain ⟨hde, h5⟩ := okK_elim h4
        have hsz := run_sizeOf (w := w) hT hee hde
        cases hv with
        | ptr b off hlt =>
          obtain ⟨hb, h6⟩ := reqK_elim h5
          have hb' : 0 ≤ i ∧ i < n := by simpa using hb
          refine OutV.out (OutV.of h h6 (v' := .pointer (some ⟨E.b b, E.d b + (off + i.toNat * ee.size), none⟩)) ?_ (.ptr _ _ hlt))
          simp [Instr.indexAt, asIntOf, hu, hb', hsz, add_mk, Nat.add_assoc, Instr.sureAddr]
        | _ => exact h5.elim
    | _ => exact h2.elim
  case index ty x ix =>
    obtain ⟨v, h1, hv⟩ := evalK_elim hr hk
    obtain ⟨vi, h2, hi⟩ := evalK_elim hr h1
    generalize evalC t' x = v' at hv ⊢
    generalize evalC t' ix = i' at hi ⊢
    cases hi with
    | int ki i =>
      obtain ⟨te, ht, h3⟩ := tyK_elim h2
      have hd : te.d ≠ .other := by intro e; rw [e] at h3; exact h3
      obtain ⟨d, hu, hdk⟩ := run_und (w := w) hT ht hd
      cases hed : te.d <;> simp only [hed] at h3 <;> simp only [hed, DOk] at hdk
      case string =>
        subst hdk
        cases hv with
        | string s =>
          obtain ⟨hb, h6⟩ := reqK_elim h3
          have hb' : 0 ≤ i ∧ i < s.size := by simpa using hb
          have hlt : i.toNat < s.size := by omega
          refine OutV.out (OutV.of h h6 (v' := .int .u8 (sAt s i.toNat)) ?_ (.int _ _))
          have hs : s[i.toNat]? = some s[i.toNat] := by simp [hlt]
          have hsa : sAt s i.toNat = (s[i.toNat].toNat : Int) := by
            unfold sAt
            have : s.data.toList.getD i.toNat 0 = s[i.toNat] := by
              have hl : i.toNat < s.data.toList.length := by simpa using hlt
              rw [List.getD_eq_getElem?_getD, List.getElem?_eq_getElem hl]; rfl
            rw [this]
          simp [Instr.index, asIntOf, hu, hb', hs, hsa]
        | _ => exact h3.elim
      case arr n e =>
        subst hdk
        obtain ⟨ee, hee, h4⟩ := tyK_elim h3
        obtain ⟨hde, h5⟩ := okK_elim h4
        have hsz := run_sizeOf (w := w) hT hee hde
        cases hv with
        | agg fs0 fs0' g1 g3 =>
          obtain ⟨hb, h6⟩ := reqK_elim h5
          have hb' : 0 ≤ i ∧ i < n := by simpa using hb
          have := partK_sound (P := P) hT h hee hde (ARel.toList ⟨g1, g3⟩) h6
          refine OutV.out ?_
          obtain ⟨v, H', E', v', w', a1, a2, a3⟩ := this
          refine ⟨v, H', E', v', w', a1, ?_, a3⟩
          simp only [Instr.index, Sem.run_bind, asIntOf_run, hu, Result.andThen_ok, hb', and_self, if_true, hsz]
          exact a2
        | _ => exact h5.elim
    | _ => exact h2.elim
  case typeAssert x xt ty ok =>
    obtain ⟨v, h1, hv⟩ := evalK_elim hr hk
    obtain ⟨te, ht, h2⟩ := tyK_elim h1
    obtain ⟨hd, h3⟩ := okK_elim h2
    obtain ⟨hi, _, h4⟩ := bothK_elim h3
    obtain ⟨d, hu, hdk⟩ := run_und (w := w) hT ht hd
    have hzv := run_zeroValue (w := w) hT ht hd
    obtain ⟨z1, _, _, _⟩ := zero_rel hT ht hd E
    have hni : ∀ ms, d ≠ .interface ms := by
      intro ms e
      subst e
      cases hed : te.d <;> simp only [hed, DOk] at hdk <;> first | (simp [hed, TD.isIface] at hi; done) | (simp at hdk; done) | skip
      · exact hd hed
    generalize evalC t' x = v' at hv ⊢
    have hpair : ∀ {a a' : Value} {b : Bool}, VRel E a a' → VRel E (.tuple #[a, .bool b]) (.tuple #[a', .bool b]) := by
      intro a a' b ha
      refine .tuple _ _ rfl fun i hi => ?_
      match i, hi with
      | 0, _ => exact ha
      | 1, _ => exact .bool b
    cases hv with
    | iface u y y' hy =>
      simp only at h4
      split at h4
      · rename_i hb
        have hu' : u = ty := Nat.eq_of_beq_eq_true hb
        subst hu'
        cases ok
        · refine OutV.out (OutV.of h h4 (v' := y') ?_ hy)
          simp only [Instr.typeAssert, Sem.run_bind, hu, Result.andThen_ok]
          cases d <;> first | (simp; done) | (exact absurd rfl (hni _))
        · refine OutV.out (OutV.of h h4 (v' := .tuple #[y', .bool true]) ?_ (hpair hy))
          simp only [Instr.typeAssert, Sem.run_bind, hu, Result.andThen_ok]
          cases d <;> first | (simp; done) | (exact absurd rfl (hni _))
      · rename_i hb
        have hu' : u ≠ ty := by intro e; rw [e] at hb; simp at hb
        cases ok
        · exact h4.elim
        · refine OutV.out (OutV.of h h4 (v' := .tuple #[te.zero, .bool false]) ?_ (hpair z1))
          simp only [Instr.typeAssert, Sem.run_bind, hu, Result.andThen_ok]
          cases d <;> first | (simp [hu', hzv]; done) | (exact absurd rfl (hni _))
    | nilIface =>
      cases ok
      · exact h4.elim
      · refine OutV.out (OutV.of h h4 (v' := .tuple #[te.zero, .bool false]) ?_ (hpair z1))
        simp only [Instr.typeAssert, Sem.run_bind, hu, Result.andThen_ok]
        cases d <;> first | (simp [hzv]; done) | (exact absurd rfl (hni _))
    | _ => exact h4.elim
  case makeMap ty r =>
    have hnew : ∀ {s : Sem Value}, (s.run P w = ((do pure (.map (some (← newObj (.map #[] 0)))) : Sem Value).run P w)) → k (.map (some H.size)) (H.push (.map [] 0 true)) → OutV P w0 E s w k := by
      intro s hs hk2
      have hb : (E.push w.heap.size 0 0).b H.size = w.heap.size := by simp [Env.push, h.n]
      have hR := h.alloc (.map #[] 0) (.map [] 0 true) 0 (fun w' hw' => ⟨#[], by rw [hb]; exact hw', rfl, fun i e he => absurd he (by simp)⟩)
      refine ⟨_, _, _, .map (some w.heap.size), _, hk2, ?_, Ext.push _ _ _ _, hR, ?_⟩
      · rw [hs]; simp [newObj, Sem.run]
      · have := VRel.map (E := E.push w.heap.size 0 0) H.size (by simp [Env.push, h.n])
        rw [hb] at this
        exact this
    cases r with
    | none => exact OutV.out (hnew (by simp [Instr.makeMap]) hk)
    | some x =>
      obtain ⟨v, h1, hv⟩ := evalK_elim hr hk
      simp only [Option.map_some]
      generalize evalC t' x = v' at hv ⊢
      cases hv with
      | int kk n =>
        obtain ⟨kt, et, ke, ee, hu, _, _, _, h2⟩ := mapTy_elim (w := w) hT h1
        exact OutV.out (hnew (by simp [Instr.makeMap, Sem.run_bind, hu, asInt, asIntOf]) h2)
      | _ => exact h1.elim
  case lookup ty x ix ok =>
    obtain ⟨m, h1, hm⟩ := evalK_elim hr hk
    obtain ⟨key, h2, hkey⟩ := evalK_elim hr h1
    exact OutV.out (lookupK_sound hT h hm hkey h2)
  case mapUpdate ty x ix y =>
    obtain ⟨m, h1, hm⟩ := evalK_elim hr hk
    obtain ⟨key, h2, hkey⟩ := evalK_elim hr h1
    obtain ⟨v, h3, hv⟩ := evalK_elim hr h2
    exact OutU.out (mapUpdK_sound hT h hm hkey hv h3)
  case mapEntry ty x ix =>
    obtain ⟨m, h1, hm⟩ := evalK_elim hr hk
    obtain ⟨key, h2, hkey⟩ := evalK_elim hr h1
    exact OutV.out (mapEntK_sound hT h hm hkey h2)
  case entryStore ty x st y =>
    obtain ⟨m, h1, hm⟩ := evalK_elim hr hk
    obtain ⟨sv, h2, hs⟩ := evalK_elim hr h1
    obtain ⟨v, h3, hv⟩ := evalK_elim hr h2
    exact OutU.out (entStK_sound h ty hm hs hv h3)
  case extract x ix =>
    obtain ⟨v, h1, hv⟩ := evalK_elim hr hk
    generalize evalC t' x = v' at hv ⊢
    split at h1
    · rename_i vs
      obtain ⟨u, h2, h3⟩ := nthK_elim h1
      have h2' : vs[ix]? = some u := by simpa using h2
      cases hv with
      | any _ => simp at h2'
      | tuple fs fs' g1 g3 =>
        obtain ⟨u', p, q⟩ := (ARel.mk (E := E) g1 g3).getElem? h2'
        exact OutV.out (OutV.of h h3 (v' := u') (by simp [Instr.extract, p]) q)
    · exact h1.elim
  case call c =>
    obtain ⟨callee, args, argTypes⟩ := c
    cases callee with
    | value f => exact hk.elim
    | invoke r m => exact hk.elim
    | builtin b =>
      obtain ⟨vs, h1, hvs⟩ := evalsK_elim hr hk
      have hargs : (args.toList.map (evalC t')).toArray = args.map (evalC t') := by rw [← Array.toList_map, Array.toArray_toList]
      rw [hargs] at hvs
      simp only [resolve, bind_pure_comp, pure_bind, invoke]
      generalize args.map (evalC t') = as at hvs ⊢
      have h2 : ∀ x y : Value, vs = [x, y] → ∃ x' y', as = #[x', y'] ∧ VRel E x x' ∧ VRel E y y' := by
        intro x y e
        subst e
        have hs := hvs.size
        obtain ⟨l⟩ := as
        match l, hs with
        | [x', y'], _ => exact ⟨x', y', rfl, by simpa using hvs.get 0 (by simp), by simpa using hvs.get 1 (by simp)⟩
      have h3 : ∀ x (l : List Value), vs = x :: l → ∃ x' l', as = (x' :: l').toArray ∧ VRel E x x' ∧ LRel E l l'.toArray := by
        intro x l e
        subst e
        have hs := hvs.size
        obtain ⟨m⟩ := as
        match m, hs with
        | x' :: l', hs => exact ⟨x', l', rfl, by simpa using hvs.get 0 (by simp), ⟨by simpa using hs, fun i hi => by have := hvs.get (i + 1) (by simp; omega); simpa [Array.getD_eq_getD_getElem?] using this⟩⟩
      cases b <;> first | exact h1.elim | simp only at h1
      case len =>
        split at h1
        · rename_i x
          obtain ⟨x', l', rfl, hx, hl⟩ := h3 x [] rfl
          have hl0 : l' = [] := by have := hl.size; simpa using this.symm
          subst hl0
          obtain ⟨ty, ht, h4⟩ := nthK_elim h1
          exact OutV.out (lenK_sound hT h (by simpa using ht) type hx h4)
        · exact h1.elim
      case append =>
        split at h1
        · rename_i s x
          obtain ⟨s', x', rfl, hs, hx⟩ := h2 s x rfl
          obtain ⟨ty, ht, h4⟩ := nthK_elim h1
          obtain ⟨xty, hxt, h5⟩ := nthK_elim h4
          exact OutV.out (appendK_sound hT h (by simpa using ht) (by simpa using hxt) type hs hx h5)
        · exact h1.elim
      case copy =>
        split at h1
        · rename_i s x
          obtain ⟨s', x', rfl, hs, hx⟩ := h2 s x rfl
          obtain ⟨ty, ht, h4⟩ := nthK_elim h1
          exact OutV.out (copyK_sound hT h (by simpa using ht) type hs hx h4)
        · exact h1.elim
      case delete =>
        split at h1
        · rename_i m key
          obtain ⟨m', key', rfl, hm, hkey⟩ := h2 m key rfl
          obtain ⟨ty, ht, h4⟩ := nthK_elim h1
          obtain ⟨v, H', E', v', w', ⟨rfl, p1⟩, p2⟩ := delK_sound (rt := type) hT h hm hkey (by simpa using ht) h4
          exact OutV.out ⟨.tuple #[], H', E', v', w', p1, p2⟩
        · exact h1.elim
      case max =>
        split at h1
        · rename_i kk x rest
          obtain ⟨x', l', rfl, hx, hl⟩ := h3 _ _ rfl
          cases hx
          obtain ⟨r, p, q⟩ := maxes_run (P := P) (w := w) (kk := kk) rest l' x hl h1
          exact OutV.out (OutV.of h p (by simpa [Builtin.max_] using q) (.int _ _))
        · exact h1.elim
      case min =>
        split at h1
        · rename_i kk x rest
          obtain ⟨x', l', rfl, hx, hl⟩ := h3 _ _ rfl
          cases hx
          obtain ⟨r, p, q⟩ := mins_run (P := P) (w := w) (kk := kk) rest l' x hl h1
          exact OutV.out (OutV.of h p (by simpa [Builtin.min_] using q) (.int _ _))
        · exact h1.elim
end
end Go.Abs
