/- Operations one after the other; ranges over functions; rounds; all code. -/
import Derived.Test.YtbmbabgkpcnppaaAbsLeave
set_option linter.all false
namespace Go.Abs
open Go

structure IOk (P : Program) (I : Interp) : Prop where
  call : ∀ fv args H K, I.call fv args H K → ACallV P fv args H K
  inv : ∀ rv m args H K, I.inv rv m args H K → AInv P rv m args H K
  loop : ∀ cx c K s, I.loop cx c K s → AWp P cx (.loop c) K s
  draw : ∀ cx ops K s id, I.draw cx ops K s → AWp P cx (.region id ops true) K s

def St.put (s : St) (dst : Option Tmp) (v : Value) : St :=
  match dst with
  | none => s
  | some i => ⟨s.t.set i v, s.d, s.u, s.H⟩
theorem putSt_eq (dst : Option Tmp) (v : Value) (s : St) (k : St → Prop) : putSt dst v s k = k (s.put dst v) := by
  cases s
  cases dst with
  | none => rfl
  | some i => simp [putSt, setK_eq, St.put]
def putC (t : Array Value) (dst : Option Tmp) (v : Value) : Array Value :=
  match dst with
  | some d => t.setIfInBounds d v
  | none => t
theorem put_rel {E : Env} {s : St} {t : Array Value} (h : LRel E s.t t) (dst : Option Tmp) {v v' : Value} (hv : VRel E v v') : LRel E (s.put dst v).t (putC t dst v') := by
  cases dst with
  | none => exact h
  | some i => exact h.set i hv
theorem put_H (s : St) (dst : Option Tmp) (v : Value) : (s.put dst v).H = s.H ∧ (s.put dst v).d = s.d ∧ (s.put dst v).u = s.u := by cases dst <;> exact ⟨rfl, rfl, rfl⟩

section
variable {P : Program} {tt : Tab} {I : Interp} {cx : Cx} {ops : Array Oper} {K : EK}

theorem finish_fat {b : Frame} {t : Array Value} {d : List Deferred} {k : List Item} {i : Nat} {rest : List Nat} {o : Oper} (ho : ops[i]? = some o) (v : Value) :
    (fatF b t d (.inRegion ops (i :: rest) :: k)).finish v = fatF b (putC t o.dst v) d (.inRegion ops rest :: k) := by
  obtain ⟨dst, op, ty, pos, after, guard⟩ := o
  cases dst <;> simp [Frame.finish, fatF, ho, putC]

theorem step_skip_fat {b : Frame} {t : Array Value} {d : List Deferred} {k : List Item} {cs : List Frame} {w : World} {i : Nat} {rest : List Nat} {o : Oper} (ho : ops[i]? = some o)
    (hw : Region.wanted o (yielded ops t) = false) :
    step P (lone (fatF b t d (.inRegion ops (i :: rest) :: k)) cs w) = .next (lone (fatF b (putC t o.dst undef) d (.inRegion ops rest :: k)) cs w) := by
  rw [← finish_fat ho]
  exact step_lone_go (by simp only [fatF]; simp [stepG, stepG.exec, ho, hw])

theorem stepG_fat {b : Frame} {t : Array Value} {d : List Deferred} {k : List Item} {cs : List Frame} {w : World} {i : Nat} {rest : List Nat} {o : Oper} (ho : ops[i]? = some o)
    (hw : Region.wanted o (yielded ops t) = true) (hd : b.roundOf = none ∨ ∀ c, o.op ≠ .defer c) :
    stepG P true { frame := fatF b t d (.inRegion ops (i :: rest) :: k), callers := cs, status := .running, dying := none } w =
      stepG.apply P true (fatF b t d (.inRegion ops (i :: rest) :: k)) cs none (execOp (evalC t) o) w := by
  have he : (fatF b t d (.inRegion ops (i :: rest) :: k)).eval = evalC t := funext fun x => evalF b t d _ x
  simp only [fatF] at he ⊢
  simp only [stepG, stepG.exec, ho, Option.map_some, hw, Option.getD_some, if_true, stepG.oper, Frame.oper?, he]
  rcases hd with hd | hd
  · rw [hd]
  · cases b.roundOf with
    | none => rfl
    | some l =>
      cases hop : o.op <;> first | rfl | exact absurd hop (hd _)

theorem guard_elim {E : Env} {s : St} {t : Array Value} (hr : LRel E s.t t) {o : Oper} {p q : Prop} (h : guardK ops.toList o s p q) :
    (Region.wanted o (yielded ops t) = true ∧ p) ∨ (Region.wanted o (yielded ops t) = false ∧ q) := by
  unfold guardK at h
  unfold Region.wanted
  cases hg : o.guard with
  | none => rw [hg] at h; exact .inl ⟨rfl, h⟩
  | some gw =>
    obtain ⟨j, want⟩ := gw
    rw [hg] at h
    simp only at h
    obtain ⟨oj, hj, h1⟩ := nthK_elim h
    have hj' : ops[j]? = some oj := by simpa using hj
    cases hd : oj.dst with
    | none => rw [hd] at h1; exact h1.elim
    | some d =>
      rw [hd] at h1
      simp only [getK_eq] at h1
      have hv := hr.getD d
      generalize s.t.getD d undef = v at h1 hv
      have hy1 : ∀ b, t[d]? = some (.bool b) → yielded ops t j = some b := fun b hb => by simp [yielded, hj', hd, hb]
      have hy2 : t[d]? = none ∨ t[d]? = some undef → yielded ops t j = none := fun hb => by rcases hb with hb | hb <;> simp [yielded, hj', hd, hb, undef]
      dsimp only
      have hget : ∀ x, t.getD d undef = x → x ≠ undef → t[d]? = some x := by
        intro x hx hne
        rw [Array.getD_eq_getD_getElem?] at hx
        cases ht : t[d]? with
        | none => rw [ht] at hx; exact absurd hx.symm hne
        | some y => rw [ht] at hx; simp at hx; rw [hx]
      split at h1
      · rename_i b
        generalize hv' : t.getD d undef = v' at hv
        cases hv
        have := hget _ hv' (by simp [undef])
        rw [hy1 _ this]
        cases want
        · rcases condK_elim h1 with ⟨rfl, h2⟩ | ⟨rfl, h2⟩
          · exact .inr ⟨rfl, h2⟩
          · exact .inl ⟨rfl, h2⟩
        · rcases condK_elim h1 with ⟨rfl, h2⟩ | ⟨rfl, h2⟩
          · exact .inl ⟨rfl, h2⟩
          · exact .inr ⟨rfl, h2⟩
      · generalize hv' : t.getD d undef = v' at hv
        cases hv
        have : yielded ops t j = none := by
          refine hy2 ?_
          rw [Array.getD_eq_getD_getElem?] at hv'
          cases ht : t[d]? with
          | none => exact .inl rfl
          | some y => rw [ht] at hv'; simp at hv'; rw [hv']; exact .inr rfl
        rw [this]
        exact .inr ⟨by cases want <;> rfl, h1⟩
      · exact h1.elim

theorem aops_nil {s : St} (h : K .normal s) : AHead P cx (.inRegion ops []) K s :=
  AHead.normal (fun _ _ _ _ _ _ => step_lone_go (by simp [stepG, stepG.exec, fatF])) h

/-- one operation -/
theorem aops_cons (hT : TyOk P tt) (hI : IOk P I) {i : Nat} {rest : List Nat} {o : Oper} (ho : ops[i]? = some o) {s : St} {k : Value → St → Prop} {q : Prop}
    (hg : guardK ops.toList o s (opK tt I cx o.op K s k) q) (hk : ∀ v s', k v s' → AHead P cx (.inRegion ops rest) K (s'.put o.dst v))
    (hq : q → AHead P cx (.inRegion ops rest) K (s.put o.dst skipV)) : AHead P cx (.inRegion ops (i :: rest)) K s := by
  intro w0 E b kk cs0 c hc hr
  rcases guard_elim hr.t hg with ⟨hw, h⟩ | ⟨hw, h⟩
  case inr =>
    have hr1 : SRel w0 E cx cs0 (s.put o.dst skipV) ⟨putC c.t o.dst undef, c.d, c.cs, c.w⟩ := by
      obtain ⟨a1, a2, a3⟩ := put_H s o.dst skipV
      exact ⟨by rw [a1]; exact hr.rel, put_rel hr.t _ .skipped, by rw [a2]; exact hr.d, by rw [a3]; exact hr.u⟩
    obtain ⟨x, s1, E1, c1, p1, p2, p3, p4⟩ := hq h w0 E b kk cs0 _ hc hr1
    exact ⟨x, s1, E1, c1, p1, p2, p3, p4.of_steps (.one (step_skip_fat ho hw))⟩
  -- what follows a value
  have go : ∀ {s' : St} {v v' : Value} {E' : Env} {c' : Conc}, k v s' → Ext E E' → SRel w0 E' cx cs0 s' c' → VRel E' v v' →
      Steps P (lone (fatF b c.t c.d (.inRegion ops (i :: rest) :: kk)) c.cs c.w) (lone (fatF b (putC c'.t o.dst v') c'.d (.inRegion ops rest :: kk)) c'.cs c'.w) →
      ∃ x s' E' c', K x s' ∧ Ext E E' ∧ SRel w0 E' cx cs0 s' c' ∧ Arr P E' (lone (fatF b c.t c.d (.inRegion ops (i :: rest) :: kk)) c.cs c.w) b kk x c' := by
    intro s' v v' E' c' h1 h2 h3 h4 h5
    have hr1 : SRel w0 E' cx cs0 (s'.put o.dst v) ⟨putC c'.t o.dst v', c'.d, c'.cs, c'.w⟩ := by
      obtain ⟨a1, a2, a3⟩ := put_H s' o.dst v
      exact ⟨by rw [a1]; exact h3.rel, put_rel h3.t _ h4, by rw [a2]; exact h3.d, by rw [a3]; exact h3.u⟩
    obtain ⟨x, s1, E1, c1, p1, p2, p3, p4⟩ := hk _ _ h1 w0 E' b kk cs0 _ (hc.mono h2) hr1
    exact ⟨x, s1, E1, c1, p1, h2.trans p2, p3, p4.of_steps h5⟩
  have hfin := fun v => finish_fat (b := b) (t := c.t) (d := c.d) (k := kk) (rest := rest) ho v
  -- an operation that calls nothing
  have prim : (∀ cc, o.op ≠ .defer cc) → primK tt o.op s.t s.H (fun v H' => k v ⟨s.t, s.d, s.u, H'⟩) →
      ∃ x s' E' c', K x s' ∧ Ext E E' ∧ SRel w0 E' cx cs0 s' c' ∧ Arr P E' (lone (fatF b c.t c.d (.inRegion ops (i :: rest) :: kk)) c.cs c.w) b kk x c' := by
    intro hnd hp
    obtain ⟨v, H', E', v', w', q1, q2, q3, q4, q5⟩ := primK_sound hT hr.rel hr.t o hp
    have hst := stepG_fat (P := P) (b := b) (d := c.d) (k := kk) (cs := c.cs) (w := c.w) (rest := rest) ho hw (.inr hnd)
    rcases q2 with q2 | ⟨q2, rfl⟩
    · refine go (c' := ⟨c.t, c.d, c.cs, w'⟩) q1 q3 ⟨q4, hr.t.mono q3, hr.d.mono q3, hr.u.mono q3⟩ q5 (.one (step_lone_go ?_))
      rw [hst, ← hfin]; simp [stepG.apply, q2]
    · refine go (v' := undef) (c' := ⟨c.t, c.d, c.cs, w'⟩) q1 q3 ⟨q4, hr.t.mono q3, hr.d.mono q3, hr.u.mono q3⟩ (.any _) (.one (step_lone_go ?_))
      rw [hst, ← hfin]; simp [stepG.apply, q2]
  -- a call's end
  have called : ∀ {e : AEnd} {H' : AHeap} {E' : Env} {w' : World}, endK s K k e H' → Ext E E' → Rel w0 E' H' w' →
      EndAt P E' (lone (fatF b c.t c.d (.inRegion ops (i :: rest) :: kk)) c.cs c.w) (fatF b c.t c.d (.inRegion ops (i :: rest) :: kk)) c.cs e w' →
      ∃ x s' E' c', K x s' ∧ Ext E E' ∧ SRel w0 E' cx cs0 s' c' ∧ Arr P E' (lone (fatF b c.t c.d (.inRegion ops (i :: rest) :: kk)) c.cs c.w) b kk x c' := by
    intro e H' E' w' h1 h2 h3 h4
    cases e with
    | returned v =>
      obtain ⟨v', p1, p2⟩ := h4
      rw [hfin] at p2
      exact go (c' := ⟨c.t, c.d, c.cs, w'⟩) h1 h2 ⟨h3, hr.t.mono h2, hr.d.mono h2, hr.u.mono h2⟩ p1 p2
    | panicked ch =>
      obtain ⟨ch', p1, p2⟩ := h4
      exact ⟨.panic ch, _, E', ⟨c.t, c.d, c.cs, w'⟩, h1, h2, ⟨h3, hr.t.mono h2, hr.d.mono h2, hr.u.mono h2⟩, .inRegion ops (i :: rest) :: kk, ch', p1, p2⟩
  obtain ⟨st, sd, su, sH⟩ := s
  unfold opK at h
  dsimp only at h
  split at h
  · rename_i cl hop
    have hnd : ∀ cc, o.op ≠ .defer cc := by intro cc e; rw [hop] at e; cases e
    have hst := stepG_fat (P := P) (b := b) (d := c.d) (k := kk) (cs := c.cs) (w := c.w) (rest := rest) ho hw (.inr hnd)
    split at h
    · rename_i f hcal
      obtain ⟨fv, h1, hfv⟩ := evalK_elim hr.t h
      obtain ⟨vs, h2, hvs⟩ := evalsK_elim hr.t h1
      have hargs : (cl.args.toList.map (evalC c.t)).toArray = cl.args.map (evalC c.t) := by rw [← Array.toList_map, Array.toArray_toList]
      rw [hargs] at hvs
      obtain ⟨e, H', E', w', q1, q2, q3, q4⟩ := hI.call _ _ _ _ h2 w0 E c.w _ _ hr.rel hfv hvs (fatF b c.t c.d (.inRegion ops (i :: rest) :: kk)) c.cs c.w _ (execOp (evalC c.t) o) ⟨by rw [hst], rfl⟩ (by
        simp only [execOp, hop, resolve, hcal])
      exact called q1 q2 q3 q4
    · rename_i r m hcal
      obtain ⟨rv, h1, hrv⟩ := evalK_elim hr.t h
      obtain ⟨vs, h2, hvs⟩ := evalsK_elim hr.t h1
      have hargs : (cl.args.toList.map (evalC c.t)).toArray = cl.args.map (evalC c.t) := by rw [← Array.toList_map, Array.toArray_toList]
      rw [hargs] at hvs
      obtain ⟨e, H', E', w', q1, q2, q3, q4⟩ := hI.inv _ _ _ _ _ h2 w0 E c.w _ _ hr.rel hrv hvs (fatF b c.t c.d (.inRegion ops (i :: rest) :: kk)) c.cs c.w _ (execOp (evalC c.t) o) ⟨by rw [hst], rfl⟩ (by
        have e0 : (#[evalC c.t r] ++ cl.args.map (evalC c.t))[0]? = some (evalC c.t r) := by rw [Array.getElem?_append]; simp
        have e1 : (cl.args.map (evalC c.t)).extract 0 cl.args.size = cl.args.map (evalC c.t) := by have := Array.extract_size (xs := cl.args.map (evalC c.t)); simpa using this
        simp [execOp, hop, resolve, hcal, invoke, e0, e1])
      exact called q1 q2 q3 q4
    · rename_i hcal
      unfold recoverK at h
      have hrun : (execOp (evalC c.t) o).run P c.w = .ok .recover c.w := by simp [execOp, hop, resolve, hcal, invoke, builtin]
      cases hro : cx.ro with
      | some l => rw [hro] at h; exact h.elim
      | none =>
        rw [hro] at h
        simp only at h
        have hbro : b.roundOf = none := by have := hc.ro; rw [hro] at this; exact this
        have hkind := hc.kind
        have hres : ∀ v cs', tryRecover (fatF b c.t c.d (.inRegion ops (i :: rest) :: kk)) c.cs = some (v, cs') → step P (lone (fatF b c.t c.d (.inRegion ops (i :: rest) :: kk)) c.cs c.w) = .next (lone (fatF b (putC c.t o.dst v) c.d (.inRegion ops rest :: kk)) cs' c.w) := by
          intro v cs' htr
          refine step_lone_go ?_
          rw [hst, ← hfin]
          have hro' : (fatF b c.t c.d (.inRegion ops (i :: rest) :: kk)).roundOf = none := hbro
          simp [stepG.apply, hrun, hro', htr]
        have hnone : tryRecover (fatF b c.t c.d (.inRegion ops (i :: rest) :: kk)) c.cs = none → step P (lone (fatF b c.t c.d (.inRegion ops (i :: rest) :: kk)) c.cs c.w) = .next (lone (fatF b (putC c.t o.dst .nilIface) c.d (.inRegion ops rest :: kk)) c.cs c.w) := by
          intro htr
          refine step_lone_go ?_
          rw [hst, ← hfin]
          have hro' : (fatF b c.t c.d (.inRegion ops (i :: rest) :: kk)).roundOf = none := hbro
          simp [stepG.apply, hrun, hro', htr]
        cases hdf : cx.dfr with
        | false =>
          rw [hdf] at h hkind
          simp only at h
          have hk0 : (fatF b c.t c.d (.inRegion ops (i :: rest) :: kk)).kind = .normal := hkind
          exact go (c' := c) h (Ext.refl E) hr .nilIface (.one (hnone (by simp [tryRecover, hk0])))
        | true =>
          rw [hdf] at h hkind
          simp only at h
          have hk0 : (fatF b c.t c.d (.inRegion ops (i :: rest) :: kk)).kind = .deferred := hkind
          have hu := hr.u
          unfold CsRel at hu
          rw [hdf] at hu
          obtain ⟨f0, r0, m0, e0, e1, hm⟩ := hu
          split at h
          · rename_i v older
            cases m0 with
            | run => exact hm.elim
            | returning => exact hm.elim
            | panicking ch' =>
              cases ch' with
              | nil => exact hm.elim
              | cons p' ps' =>
                obtain ⟨pv, pr, pg⟩ := p'
                obtain ⟨⟨m1, m2, m3⟩, m4⟩ := hm
                simp only at m1 m2 m3
                subst m2 m3
                refine go (c' := ⟨c.t, c.d, { f0 with mode := .panicking ({ v := pv, recovered := true } :: ps') } :: r0, c.w⟩) h (Ext.refl E) ⟨hr.rel, hr.t, hr.d, ?_⟩ m1
                  (.one (hres pv _ (by rw [e1]; simp [tryRecover, hk0])))
                unfold CsRel
                rw [hdf]
                exact ⟨f0, r0, _, e0, rfl, ⟨m1, rfl, rfl⟩, m4⟩
          · cases m0 with
            | run => exact hm.elim
            | returning => exact hm.elim
            | panicking ch' =>
              cases ch' with
              | nil => exact hm.elim
              | cons p' ps' =>
                obtain ⟨pv, pr, pg⟩ := p'
                obtain ⟨⟨m1, m2, m3⟩, m4⟩ := hm
                simp only at m2
                subst m2
                exact go (c' := c) h (Ext.refl E) hr .nilIface (.one (hnone (by rw [e1]; simp [tryRecover, hk0])))
          · cases m0 with
            | run => exact hm.elim
            | panicking ch' => exact hm.elim
            | returning => exact go (c' := c) h (Ext.refl E) hr .nilIface (.one (hnone (by rw [e1]; simp [tryRecover, hk0])))
          · exact h.elim
    · exact prim hnd h
  · rename_i cl hop
    cases hro : cx.ro with
    | some l => rw [hro] at h; exact h.elim
    | none =>
      rw [hro] at h
      simp only at h
      have hbro : b.roundOf = none := by have := hc.ro; rw [hro] at this; exact this
      have hst := stepG_fat (P := P) (b := b) (d := c.d) (k := kk) (cs := c.cs) (w := c.w) (rest := rest) ho hw (.inl hbro)
      split at h
      · rename_i f hcal
        obtain ⟨fv, h1, hfv⟩ := evalK_elim hr.t h
        obtain ⟨vs, h2, hvs⟩ := evalsK_elim hr.t h1
        have hargs : (cl.args.toList.map (evalC c.t)).toArray = cl.args.map (evalC c.t) := by rw [← Array.toList_map, Array.toArray_toList]
        rw [hargs] at hvs
        generalize hfe : evalC c.t f = fe at hfv
        cases hfv with
        | func fn fs fs' cs cs' hf g1 g2 g3 g4 =>
          have hrun : (execOp (evalC c.t) o).run P c.w = .ok (.defer { target := .fn (fnMap E fn) cs', args := fs' ++ cl.args.map (evalC c.t) }) c.w := by simp [execOp, hop, resolve, hcal, hfe, Deferred.ofValue]
          have hD : DefRel E { target := .fn fn cs, args := (fs.toList ++ vs).toArray } { target := .fn (fnMap E fn) cs', args := fs' ++ cl.args.map (evalC c.t) } :=
            ⟨⟨hf, rfl, g2, g4⟩, ((ARel.toList ⟨g1, g3⟩).append hvs).toArray⟩
          refine go (v' := undef) (c' := ⟨c.t, { target := .fn (fnMap E fn) cs', args := fs' ++ cl.args.map (evalC c.t) } :: c.d, c.cs, c.w⟩) h2 (Ext.refl E) ⟨hr.rel, hr.t, ⟨hD, hr.d⟩, hr.u⟩ (.any _) (.one (step_lone_go ?_))
          rw [hst, ← finish_fat (b := b) (i := i) (k := kk) (rest := rest) ho]
          simp only [stepG.apply, Sem.runT_eq, hrun, GStep.bare_after]
          rfl
        | _ => exact h2.elim
      · exact h.elim
  · rename_i x hop
    have hnd : ∀ cc, o.op ≠ .defer cc := by intro cc e; rw [hop] at e; cases e
    have hst := stepG_fat (P := P) (b := b) (d := c.d) (k := kk) (cs := c.cs) (w := c.w) (rest := rest) ho hw (.inr hnd)
    obtain ⟨v, h1, hv⟩ := evalK_elim hr.t h
    generalize hxe : evalC c.t x = xe at hv
    cases hv with
    | iface t y y' hy =>
      have hrun : (execOp (evalC c.t) o).run P c.w = .halt (.panic (.iface t y')) c.w := by simp [execOp, hop, hxe, Instr.panic]
      refine ⟨.panic _, ⟨st, sd, su, sH⟩, E, c, h1, Ext.refl E, hr, .inRegion ops (i :: rest) :: kk, [{ v := .iface t y', recovered := false }], ⟨⟨.iface _ _ _ hy, rfl, rfl⟩, trivial⟩, .one (step_lone_go ?_)⟩
      · rw [hst]
        simp only [stepG.apply, Sem.runT_eq, hrun, GStep.bare_after]
        rfl
    | _ => exact h1.elim
  · rename_i hn1 hn2 hn3
    exact prim (fun cc e => hn2 cc e) h

theorem opsK_sound (hT : TyOk P tt) (hI : IOk P I) : ∀ (l : List Oper) (i : Nat) (s : St), ops.toList.drop i = l → opsK tt I cx ops.toList l K s → AHead P cx (.inRegion ops (List.range' i l.length)) K s
  | [], i, s, _, h => aops_nil h
  | o :: l, i, s, hl, h => by
    have ho : ops[i]? = some o := by
      have : (ops.toList.drop i)[0]? = some o := by rw [hl]; rfl
      simpa using this
    rw [opsK_cons] at h
    rw [List.length_cons, List.range'_succ]
    have hl' : ops.toList.drop (i + 1) = l := by rw [← List.tail_drop, hl]; rfl
    refine aops_cons hT hI ho h (fun v s' hk => ?_) (fun hq => ?_)
    · rw [putSt_eq] at hk
      exact opsK_sound hT hI l (i + 1) _ hl' hk
    · rw [putSt_eq] at hq
      exact opsK_sound hT hI l (i + 1) _ hl' hq

theorem awp_region (hT : TyOk P tt) (hI : IOk P I) {id : Nat} {s : St} (h : opsK tt I cx ops.toList ops.toList K s) : AWp P cx (.region id ops false) K s := by
  have := opsK_sound hT hI ops.toList 0 s rfl h
  rw [Array.length_toList, ← List.range_eq_range'] at this
  exact AHead.of_step (fun _ _ _ _ _ _ => step_lone_go (by simp [stepG, stepG.exec, fatF])) this
end
end Go.Abs
