/- Ranges over functions, rounds, and all code. -/
import Derived.Test.YtbmbabgkpcnppaaAbsOpsRun
set_option linter.all false
namespace Go.Abs
open Go

section
variable {P : Program} {tt : Tab} {I : Interp} {cx : Cx} {K : EK}

theorem jump_arr {E : Env} {m : Machine} {b : Frame} {k : List Item} {jump : Option Code} {s : St} {c : Conc} (h : jumpK jump K s)
    (hst : Steps P m (lone (fatF b c.t c.d ((jump.map Item.code).toList ++ k)) c.cs c.w)) : ∃ x, K x s ∧ Arr P E m b k x c := by
  unfold jumpK at h
  split at h
  · exact ⟨.normal, h, hst⟩
  · exact ⟨.ret, h, k, hst⟩
  · rename_i id
    refine ⟨.exit id, h, fun k' hk => hst.trans (.one (step_lone_go (by simp [stepG, stepG.exec, fatF, hk]))), fun hn => ⟨k, hn, hst⟩⟩
  · exact h.elim

/-- behind the call of the function that is ranged over -/
theorem endLoop_arr {w0 : World} {E : Env} {cs0 : List Frame} {m : Machine} {b : Frame} {k : List Item} {l : Nat} {s : St} {c : Conc} (h : endLoopK l K s) (hr : SRel w0 E cx cs0 s c)
    (hst : Steps P m (lone (fatF b c.t c.d (.endRangeFunc (E.b l) :: k)) c.cs c.w)) :
    ∃ x s' c', K x s' ∧ SRel w0 E cx cs0 s' c' ∧ Arr P E m b k x c' := by
  unfold endLoopK at h
  obtain ⟨st0, sd0, su0, sH0⟩ := s
  obtain ⟨ob, hg, h⟩ := heapK_elim h
  split at h
  · rename_i r
    obtain ⟨_, _, l', p1, p2⟩ := hr.rel.obj l _ hg
    have hj : r.state ≠ .busy ∧ jumpK r.pending K ⟨st0, sd0, su0, sH0.kill l⟩ := by
      split at h
      · exact h.elim
      · rename_i hn; exact ⟨hn, h⟩
    have hstate : ¬ l'.state = .busy := by rw [p2.state]; exact hj.1
    let w' : World := { c.w with heap := c.w.heap.setIfInBounds (E.b l) (.loop { l' with state := .exhausted }) }
    have hrun : (Instr.endLoop (E.b l)).run P c.w = .ok r.pending w' := by
      simp [Instr.endLoop, Instr.getLoop, getObj, setObj, Sem.run, p1, hstate, w', p2.pending]
    have hR := hr.rel.writeDead hg rfl (w' := w') (by simp [w']) rfl rfl rfl (fun x hx => by simp [w', Array.getElem?_setIfInBounds_ne (Ne.symm hx)])
    have hstep : step P (lone (fatF b c.t c.d (.endRangeFunc (E.b l) :: k)) c.cs c.w) = .next (lone (fatF b c.t c.d ((r.pending.map Item.code).toList ++ k)) c.cs w') := by
      refine step_lone_go ?_
      simp only [fatF, stepG, stepG.exec, Sem.runT_eq, hrun, GStep.bare_after]
      rfl
    obtain ⟨x, q1, q2⟩ := jump_arr (P := P) (E := E) (b := b) (k := k) (c := ⟨c.t, c.d, c.cs, w'⟩) hj.2 (hst.trans (.one hstep))
    exact ⟨x, _, ⟨c.t, c.d, c.cs, w'⟩, q1, ⟨hR, hr.t, hr.d, hr.u⟩, q2⟩
  · exact h.elim

theorem awp_range (hI : IOk P I) {f : Operand} {params : Array Tmp} {assign body : Code} {s : St} (h : evalK s.t f fun fv => rangeK I cx fv params assign body K s) : AWp P cx (.rangeFunc f params assign body) K s := by
  intro w0 E b k cs0 c hc hr
  obtain ⟨fv, h1, hfv⟩ := evalK_elim hr.t h
  obtain ⟨st, sd, su, sH⟩ := s
  unfold rangeK at h1
  dsimp only at h1
  have hcro := hc.ro
  split at h1
  · -- not in a round
    rename_i hro
    rw [hro] at hcro
    simp only at hcro
    have hn := hr.rel.n
    let E1 := E.push c.w.heap.size 0 0
    let E2 := E1.push (c.w.heap.size + 1) 0 0
    have x1 : Ext E E1 := Ext.push _ _ _ _
    have x2 : Ext E E2 := x1.trans (Ext.push _ _ _ _)
    let lp : Loop := { state := .ready, pending := none, fn := b.fn, tmps := c.t, params := params, assign := assign, body := body, defers := c.w.heap.size }
    let w1 : World := { c.w with heap := c.w.heap.push (.deferred (some [])) }
    let w2 : World := { w1 with heap := w1.heap.push (.loop lp) }
    have b1 : E1.b sH.size = c.w.heap.size := by simp [E1, Env.push, hn]
    have r1 : Rel w0 E1 (sH.push (.deferred [])) w1 := hr.rel.alloc _ _ 0 fun w' hw' => ⟨[], by rw [b1]; exact hw', trivial⟩
    have hw1 : w1.heap.size = c.w.heap.size + 1 := by simp [w1]
    have r2 : Rel w0 E2 ((sH.push (.deferred [])).push (.loop { state := .ready, pending := none, fn := cx.fn, tmps := st.toArray, params, assign, body, defers := sH.size })) w2 := by
      have := r1.alloc (.loop lp) (.loop { state := .ready, pending := none, fn := cx.fn, tmps := st.toArray, params, assign, body, defers := sH.size }) 0 (fun w' hw' => by
        refine ⟨lp, ?_, ⟨rfl, rfl, hc.fn, ?_, rfl, rfl, rfl, ?_, ?_⟩⟩
        · have : (E1.push w1.heap.size 0 0).b (sH.push (.deferred [])).size = w1.heap.size := by simp [E1, Env.push, hn]
          rw [this]; exact hw'
        · rw [hw1]; exact (hr.t.mono x2).toArray
        · rw [hw1]; show c.w.heap.size = E2.b sH.size
          rw [(Ext.push E1 _ _ _).b sH.size (by simp [E1, Env.push, hn])]; exact b1.symm
        · simp [E1, Env.push, hn]; omega)
      rw [hw1] at this
      exact this
    have hyield : VRel E2 (.func (.yield (sH.size + 1)) #[] #[]) (.func (.yield (c.w.heap.size + 1)) #[] #[]) := by
      have hb : E2.b (sH.size + 1) = c.w.heap.size + 1 := by simp [E2, E1, Env.push, hn]
      have := VRel.func (E := E2) (.yield (sH.size + 1)) #[] #[] #[] #[] (by simp [FnOk, E2, E1, Env.push, hn]) rfl rfl (fun i hi => absurd hi (by simp)) (fun i hi => absurd hi (by simp))
      simpa [fnMap, hb] using this
    have hargs : LRel E2 [.func (.yield (sH.size + 1)) #[] #[]] #[.func (.yield (c.w.heap.size + 1)) #[] #[]] := LRel.cons hyield (LRel.nil _)
    let dmark : Deferred := { target := .collected c.w.heap.size, args := #[] }
    have hask : Asked P (fatF b c.t c.d (.code (.rangeFunc f params assign body) :: k)) c.cs c.w (fatF b c.t (dmark :: c.d) (.inRangeFunc (c.w.heap.size + 1) :: k)) w2
        (do let d ← resolve (fatF b c.t (dmark :: c.d) (.inRangeFunc (c.w.heap.size + 1) :: k)).eval { callee := .value f, args := #[.const (.func (.yield (c.w.heap.size + 1)) #[] #[])], argTypes := #[] } 0; invoke d.target d.args) := by
      refine ⟨?_, rfl⟩
      have hent : (Instr.enterLoop b.fn c.t params assign body none).run P c.w = .ok (c.w.heap.size + 1, [dmark]) w2 := by
        simp [Instr.enterLoop, w2, w1, lp, dmark]
      simp only [fatF] at *
      simp only [stepG, stepG.exec, hcro, Sem.runT_eq, hent, GStep.bare_after]
      rfl
    obtain ⟨e, H', E', w', q1, q2, q3, q4⟩ := hI.call _ _ _ _ h1 w0 E2 w2 _ _ r2 (hfv.mono x2) hargs _ c.cs c.w _ _ hask (by
      simp only [resolve, List.map_toArray, List.map_cons, List.map_nil]
      rw [evalF]
      rfl)
    have hd' : DsRel E' ({ target := .collected sH.size, args := #[] } :: sd) (dmark :: c.d) := by
      refine ⟨⟨⟨?_, ?_⟩, ARel.nil _⟩, hr.d.mono (x2.trans q2)⟩
      · exact Nat.lt_of_lt_of_le (by simp [E2, E1, Env.push, hn]; omega) q2.n
      · show c.w.heap.size = E'.b sH.size
        rw [q2.b _ (by simp [E2, E1, Env.push, hn]; omega), (Ext.push E1 _ _ _).b sH.size (by simp [E1, Env.push, hn])]; exact b1.symm
    cases e with
    | panicked ch =>
      obtain ⟨ch', p1, p2⟩ := q4
      exact ⟨.panic ch, _, E', ⟨c.t, dmark :: c.d, c.cs, w'⟩, q1, x2.trans q2, ⟨q3, hr.t.mono (x2.trans q2), hd', hr.u.mono (x2.trans q2)⟩, _, ch', p1, p2⟩
    | returned v =>
      obtain ⟨v', p1, p2⟩ := q4
      have hb : E'.b (sH.size + 1) = c.w.heap.size + 1 := by
        rw [q2.b _ (by simp [E2, E1, Env.push, hn])]; simp [E2, E1, Env.push, hn]
      have p2' : Steps P (lone (fatF b c.t c.d (.code (.rangeFunc f params assign body) :: k)) c.cs c.w) (lone (fatF b c.t (dmark :: c.d) (.endRangeFunc (E'.b (sH.size + 1)) :: k)) c.cs w') := by
        rw [hb]; exact p2
      obtain ⟨x, s', c', g1, g2, g3⟩ := endLoop_arr (cx := cx) (cs0 := cs0) (s := ⟨st, { target := .collected sH.size, args := #[] } :: sd, su, H'⟩) (c := ⟨c.t, dmark :: c.d, c.cs, w'⟩) q1 ⟨q3, hr.t.mono (x2.trans q2), hd', hr.u.mono (x2.trans q2)⟩ p2'
      exact ⟨x, s', E', c', g1, x2.trans q2, g2, g3⟩
  · -- in a round
    rename_i l0 hro
    rw [hro] at hcro
    obtain ⟨hl0, hbro⟩ := hcro
    obtain ⟨ob, hg, h1⟩ := heapK_elim h1
    split at h1
    · rename_i r0
      obtain ⟨_, _, l0', p1, p2⟩ := hr.rel.obj l0 _ hg
      have hn := hr.rel.n
      let E1 := E.push c.w.heap.size 0 0
      have x1 : Ext E E1 := Ext.push _ _ _ _
      let lp : Loop := { state := .ready, pending := none, fn := b.fn, tmps := c.t, params := params, assign := assign, body := body, defers := l0'.defers }
      let w1 : World := { c.w with heap := c.w.heap.push (.loop lp) }
      have b1 : E1.b sH.size = c.w.heap.size := by simp [E1, Env.push, hn]
      have r1 : Rel w0 E1 (sH.push (.loop { state := .ready, pending := none, fn := cx.fn, tmps := st.toArray, params, assign, body, defers := r0.defers })) w1 :=
        hr.rel.alloc _ _ 0 fun w' hw' => by
          refine ⟨lp, by rw [b1]; exact hw', ⟨rfl, rfl, hc.fn, (hr.t.mono x1).toArray, rfl, rfl, rfl, ?_, Nat.lt_of_lt_of_le p2.dlt x1.n⟩⟩
          show l0'.defers = E1.b r0.defers
          rw [x1.b _ p2.dlt]; exact p2.defers
      have hyield : VRel E1 (.func (.yield sH.size) #[] #[]) (.func (.yield c.w.heap.size) #[] #[]) := by
        have := VRel.func (E := E1) (.yield sH.size) #[] #[] #[] #[] (by simp [FnOk, E1, Env.push, hn]) rfl rfl (fun i hi => absurd hi (by simp)) (fun i hi => absurd hi (by simp))
        simpa [fnMap, b1] using this
      have hargs : LRel E1 [.func (.yield sH.size) #[] #[]] #[.func (.yield c.w.heap.size) #[] #[]] := LRel.cons hyield (LRel.nil _)
      have hask : Asked P (fatF b c.t c.d (.code (.rangeFunc f params assign body) :: k)) c.cs c.w (fatF b c.t c.d (.inRangeFunc c.w.heap.size :: k)) w1
          (do let d ← resolve (fatF b c.t c.d (.inRangeFunc c.w.heap.size :: k)).eval { callee := .value f, args := #[.const (.func (.yield c.w.heap.size) #[] #[])], argTypes := #[] } 0; invoke d.target d.args) := by
        refine ⟨?_, rfl⟩
        have hent : (Instr.enterLoop b.fn c.t params assign body (some (E.b l0))).run P c.w = .ok (c.w.heap.size, []) w1 := by
          simp [Instr.enterLoop, Instr.getLoop, getObj, Sem.run, p1, w1, lp]
        simp only [fatF] at *
        simp only [stepG, stepG.exec, hbro, Sem.runT_eq, hent, GStep.bare_after]
        rfl
      obtain ⟨e, H', E', w', q1, q2, q3, q4⟩ := hI.call _ _ _ _ h1 w0 E1 w1 _ _ r1 (hfv.mono x1) hargs _ c.cs c.w _ _ hask (by
        simp only [resolve, List.map_toArray, List.map_cons, List.map_nil]
        rw [evalF]
        rfl)
      cases e with
      | panicked ch =>
        obtain ⟨ch', p1, p2⟩ := q4
        exact ⟨.panic ch, _, E', ⟨c.t, c.d, c.cs, w'⟩, q1, x1.trans q2, ⟨q3, hr.t.mono (x1.trans q2), hr.d.mono (x1.trans q2), hr.u.mono (x1.trans q2)⟩, _, ch', p1, p2⟩
      | returned v =>
        obtain ⟨v', p1, p2⟩ := q4
        have hb : E'.b sH.size = c.w.heap.size := by
          rw [q2.b _ (by simp [E1, Env.push, hn])]; exact b1
        have p2' : Steps P (lone (fatF b c.t c.d (.code (.rangeFunc f params assign body) :: k)) c.cs c.w) (lone (fatF b c.t c.d (.endRangeFunc (E'.b sH.size) :: k)) c.cs w') := by
          rw [hb]; exact p2
        obtain ⟨x, s', c', g1, g2, g3⟩ := endLoop_arr (cx := cx) (cs0 := cs0) (s := ⟨st, sd, su, H'⟩) (c := ⟨c.t, c.d, c.cs, w'⟩) q1 ⟨q3, hr.t.mono (x1.trans q2), hr.d.mono (x1.trans q2), hr.u.mono (x1.trans q2)⟩ p2'
        exact ⟨x, s', E', c', g1, x1.trans q2, g2, g3⟩
    · exact h1.elim

/-- all code -/
theorem den_sound (hT : TyOk P tt) (hI : IOk P I) : ∀ (c : Code) {K : EK} {s : St}, den tt I cx c K s → AWp P cx c K s
  | .skip, _, _, h => awp_skip h
  | .label _, _, _, h => awp_label h
  | .region _ _ false, _, _, h => awp_region hT hI h
  | .region id _ true, _, _, h => hI.draw _ _ _ _ id h
  | .seq a b, _, _, h => awp_seq (AHead.mono (den_sound hT hI a h) fun e s' hk => by
      cases e with
      | normal => exact den_sound hT hI b hk
      | _ => exact hk)
  | .cond c x y, _, _, h => awp_cond h (fun hp => den_sound hT hI x hp) (fun hq => den_sound hT hI y hq)
  | .block id c, _, _, h => awp_block (den_sound hT hI c h)
  | .loop c, _, _, h => hI.loop _ _ _ _ h
  | .rangeFunc f ps a b, _, _, h => awp_range hI h
  | .exit _, _, _, h => awp_exit h
  | .scope c, _, _, h => awp_scope (den_sound hT hI c h)
  | .goto _, _, _, h => h.elim
  | .ret, _, _, h => awp_ret h
  | .refuse _, _, _, h => h.elim

theorem sets_elim {E : Env} : ∀ (ps ps' : List (Tmp × Value)) {t : List Value} {t' : Array Value} {k : List Value → Prop}, LRel E t t' → ps.map (·.1) = ps'.map (·.1) → (∀ (i : Nat), VRel E ((ps.map (·.2)).getD i undef) ((ps'.map (·.2)).getD i undef)) →
    setsK t ps k → ∃ t1, k t1 ∧ LRel E t1 (ps'.foldl (fun tmps (x : Tmp × Value) => tmps.setIfInBounds x.1 x.2) t')
  | [], [], t, t', k, hr, _, _, h => ⟨t, h, hr⟩
  | (i, v) :: ps, (j, v') :: ps', t, t', k, hr, hm, hv, h => by
    simp only [setsK, setK_eq] at h
    simp only [List.map_cons, List.cons.injEq] at hm
    obtain ⟨rfl, hm⟩ := hm
    have h0 : VRel E v v' := by simpa using hv 0
    exact sets_elim ps ps' (hr.set i h0) hm (fun n => by simpa using hv (n + 1)) h
  | [], _ :: _, _, _, _, _, hm, _, _ => by simp at hm
  | _ :: _, [], _, _, _, _, hm, _, _ => by simp at hm

/-- a round of a range over a function: the call of its yield -/
theorem acallv_yield (hT : TyOk P tt) (hI : IOk P I) {l : Nat} {args : List Value} {H : AHeap} {K : CK} (h : roundK tt I (hasBody P) l args H K) : ACallV P (.func (.yield l) #[] #[]) args H K := by
  intro w0 E w fv' args' h1 h2 h3 c0 cs w00 c S h4 h5
  cases h2 with
  | func _ _ fs' _ cs' hf g1 g2 g3 g4 =>
    have e1 : fs' = #[] := by simpa using g1.symm
    have e2 : cs' = #[] := by simpa using g2.symm
    subst e1 e2
    unfold roundK at h
    obtain ⟨ob, hg, h⟩ := heapK_elim h
    split at h
    · rename_i r
      split at h
      · rename_i hn
        simp only [Bool.and_eq_true] at hn
        obtain ⟨hn1, hn2⟩ := hn
        have hn1 := Nat.eq_of_beq_eq_true hn1
        obtain ⟨hlt, _, r', p1, p2⟩ := h1.obj l _ hg
        have hlE : l < E.n := h1.n ▸ hlt
        have hsz : args'.size = r'.params.size := by rw [p2.params, ← h3.size, hn1]; simp
        obtain ⟨t1, q1, q2⟩ := sets_elim (r.params.toList.zip args) (r'.params.toList.zip args'.toList) (ARel.toList p2.tmps) (by
            have a1 : args.length = r.params.toList.length := hn1
            have a2 : args'.toList.length = r'.params.toList.length := by simpa using hsz
            rw [List.map_fst_zip (by omega), List.map_fst_zip (by omega), p2.params]) (fun n => by
            have a1 : args.length = r.params.toList.length := hn1
            have a2 : args'.toList.length = r'.params.toList.length := by simpa using hsz
            rw [List.map_snd_zip (by omega), List.map_snd_zip (by omega)]
            have := h3.getD n
            simpa [Array.getD_eq_getD_getElem?, List.getD] using this) h
        let b : Frame := { (default : Frame) with fn := r'.fn, kind := .normal, roundOf := some (E.b l) }
        let tm := ((r'.params.zip args').foldl (fun tmps (t, a) => tmps.setIfInBounds t a) r'.tmps)
        have htm : LRel E t1 tm := by
          have : tm = (r'.params.toList.zip args'.toList).foldl (fun tmps (x : Tmp × Value) => tmps.setIfInBounds x.1 x.2) r'.tmps := by
            show (r'.params.zip args').foldl _ _ = _
            rw [← Array.foldl_toList, Array.toList_zip]
          rw [this]; exact q2
        have hS : S.run P w = .ok (.round (E.b l) r'.fn tm r'.assign r'.body) w := by
          rw [h5]
          simp [fnMap, Deferred.ofValue, invoke, Instr.yield, Instr.getLoop, getObj, Sem.run, p1, hsz, tm]
        have hap : (stepG.apply P true c cs none S w).bare = .go { frame := fatF b tm [] [.code r'.assign, .beginRound, .code r'.body], callers := c :: cs, status := .running, dying := none } w := by
          simp only [stepG.apply, Sem.runT_eq, hS, if_true, GStep.bare_after]
          rfl
        have hst := step_asked h4 hap ⟨rfl, rfl, rfl⟩
        have hcx : CxRel E ⟨false, some l, r.fn⟩ b := ⟨p2.fn, rfl, hlE, rfl⟩
        have hr0 : SRel w0 E ⟨false, some l, r.fn⟩ (c :: cs) ⟨t1, [], .run, H⟩ ⟨tm, [], c :: cs, w⟩ := ⟨h1, htm, trivial, rfl⟩
        have hfn : ∃ fn, P.funcs[b.fn]? = some fn := by
          have : b.fn = r.fn := p2.fn
          rw [this]
          unfold hasBody at hn2
          cases hx : P.funcs[r.fn]? with
          | none => rw [hx] at hn2; simp at hn2
          | some fn => exact ⟨fn, rfl⟩
        -- a panic goes out of the round
        have hpanic : ∀ {E1 : Env} {M : Machine} {s1 : St} {c1 : Conc} {ch : List PanicEntry} {k : List Item}, Ext E E1 → SRel w0 E1 ⟨false, some l, r.fn⟩ (c :: cs) s1 c1 → s1.d = [] → K (.panicked ch) s1.H →
            Steps P (lone c0 cs w00) M → Arr P E1 M b k (.panic ch) c1 → ∃ e H' E' w', K e H' ∧ Ext E E' ∧ Rel w0 E' H' w' ∧ EndAt P E' (lone c0 cs w00) c cs e w' := by
          intro E1 M s1 c1 ch k x1 hs1 hd1 hK1 hst1 ha
          obtain ⟨todo, ch', hch, ha⟩ := ha
          have hcs : c1.cs = c :: cs := hs1.u
          have hdd : c1.d = [] := by
            have := hs1.d
            rw [hd1] at this
            cases hc : c1.d with
            | nil => rfl
            | cons _ _ => rw [hc] at this; exact this.elim
          rw [hcs, hdd] at ha
          obtain ⟨fn, hfn⟩ := hfn
          have hlast : step P (lone { fatF b c1.t [] todo with mode := .panicking ch' } (c :: cs) c1.w) = .next (lone (c.raise ch') cs c1.w) := by
            refine step_lone_go ?_
            have hcatch : Frame.catches P { fatF b c1.t [] todo with mode := .panicking ch' } = false := by
              simp only [Frame.catches, fatF, hfn]
            simp only [stepG, unwind, fatF] at hcatch ⊢
            simp [hcatch]
          exact ⟨.panicked ch, s1.H, E1, c1.w, hK1, x1, hs1.rel, ch', hch, hst1.trans (ha.trans (.one hlast))⟩
        -- the round's end
        have hend : ∀ {E1 : Env} {s1 : St} {c1 : Conc} {jump : Option Code} {fr : Frame}, Ext E E1 → SRel w0 E1 ⟨false, some l, r.fn⟩ (c :: cs) s1 c1 → endRoundK l jump s1 K → Steps P (lone c0 cs w00) (lone fr c1.cs c1.w) →
            (∀ w2, (Instr.endRound (E.b l) jump).run P c1.w = .ok (.bool jump.isNone) w2 → step P (lone fr c1.cs c1.w) = .next (lone (c.finish (.bool jump.isNone)) cs w2)) →
            ∃ e H' E' w', K e H' ∧ Ext E E' ∧ Rel w0 E' H' w' ∧ EndAt P E' (lone c0 cs w00) c cs e w' := by
          intro E1 s1 c1 jump fr x1 hs1 hk hst1 hlast
          unfold endRoundK at hk
          obtain ⟨t1', d1', u1', H1'⟩ := s1
          obtain ⟨ob, hg2, hk⟩ := heapK_elim hk
          split at hk
          · rename_i r2
            obtain ⟨_, _, r2', p3, p4⟩ := hs1.rel.obj l _ hg2
            have hbl : E1.b l = E.b l := x1.b l hlE
            rw [hbl] at p3
            let nl : Loop := { r2' with state := if jump.isNone then .ready else .done, pending := jump }
            let w2 : World := { c1.w with heap := c1.w.heap.setIfInBounds (E.b l) (.loop nl) }
            have hrun : (Instr.endRound (E.b l) jump).run P c1.w = .ok (.bool jump.isNone) w2 := by
              simp [Instr.endRound, Instr.getLoop, getObj, setObj, Sem.run, p3, w2, nl]
            have hwr : ∀ (st : LoopState), st = (if jump.isNone then .ready else .done) → Rel w0 E1 (H1'.set l (.loop ⟨st, jump, r2.fn, r2.tmps, r2.params, r2.assign, r2.body, r2.defers⟩)) w2 := by
              intro st hst
              refine hs1.rel.write hg2 rfl _ (by simp [w2]) rfl rfl rfl (fun x hx => by simp [w2, Array.getElem?_setIfInBounds_ne (by rw [hbl] at hx; exact Ne.symm hx)]) ?_
              have hlt2 : E.b l < c1.w.heap.size := (Array.getElem?_eq_some_iff.1 p3).1
              exact ⟨nl, by rw [hbl]; simp [w2, hlt2], hst ▸ rfl, rfl, p4.fn, p4.tmps, p4.params, p4.assign, p4.body, p4.defers, p4.dlt⟩
            have hstep := hst1.trans (.one (hlast w2 hrun))
            cases jump with
            | none => exact ⟨_, _, E1, w2, hk, x1, hwr .ready rfl, .bool true, .bool true, hstep⟩
            | some j => exact ⟨_, _, E1, w2, hk, x1, hwr .done rfl, .bool false, .bool false, hstep⟩
          · exact hk.elim
        obtain ⟨x, s1, E1, c1, k1, x1, hs1, ha⟩ := den_sound hT hI r.assign q1 w0 E b [.beginRound, .code r'.body] (c :: cs) ⟨tm, [], c :: cs, w⟩ hcx hr0
        rw [← p2.assign] at ha
        cases x with
        | exit id => exact k1.elim
        | ret => exact k1.elim
        | panic ch =>
          simp only at k1
          split at k1
          · rename_i hd1; exact hpanic x1 hs1 hd1 k1 (.one hst) ha
          · exact k1.elim
        | normal =>
          simp only [beginK] at k1
          obtain ⟨ob, hg2, k1⟩ := heapK_elim k1
          split at k1
          · rename_i r2
            obtain ⟨_, _, r2', p3, p4⟩ := hs1.rel.obj l _ hg2
            have hbl : E1.b l = E.b l := x1.b l hlE
            rw [hbl] at p3
            split at k1
            · rename_i hrs
              have hst' : r2'.state = .ready := p4.state.trans hrs
              let w2 : World := { c1.w with heap := c1.w.heap.setIfInBounds (E.b l) (.loop { r2' with state := .busy }) }
              have hrun : (Instr.beginRound (E.b l)).run P c1.w = .ok () w2 := by
                simp [Instr.beginRound, Instr.getLoop, getObj, setObj, Sem.run, p3, hst', w2]
              have hstep : step P (lone (fatF b c1.t c1.d [.beginRound, .code r'.body]) c1.cs c1.w) = .next (lone (fatF b c1.t c1.d [.code r'.body]) c1.cs w2) := by
                refine step_lone_go ?_
                simp only [fatF, stepG, stepG.exec, b, Option.elim, stepG.apply, Sem.runT_eq, Sem.run_bind, hrun, Result.andThen_ok, Sem.run_pure, GStep.bare_after]
                rfl
              have hR2 : Rel w0 E1 (s1.H.set l (.loop ⟨.busy, r2.pending, r2.fn, r2.tmps, r2.params, r2.assign, r2.body, r2.defers⟩)) w2 := by
                refine hs1.rel.write hg2 rfl _ (by simp [w2]) rfl rfl rfl (fun x hx => by simp [w2, Array.getElem?_setIfInBounds_ne (by rw [hbl] at hx; exact Ne.symm hx)]) ?_
                have hlt2 : E.b l < c1.w.heap.size := (Array.getElem?_eq_some_iff.1 p3).1
                exact ⟨{ r2' with state := .busy }, by rw [hbl]; simp [w2, hlt2], rfl, p4.pending, p4.fn, p4.tmps, p4.params, p4.assign, p4.body, p4.defers, p4.dlt⟩
              have hs2 : SRel w0 E1 ⟨false, some l, r.fn⟩ (c :: cs) ⟨s1.t, s1.d, s1.u, s1.H.set l (.loop ⟨.busy, r2.pending, r2.fn, r2.tmps, r2.params, r2.assign, r2.body, r2.defers⟩)⟩ ⟨c1.t, c1.d, c1.cs, w2⟩ := ⟨hR2, hs1.t, hs1.d, hs1.u⟩
              obtain ⟨x2, s3, E3, c3, k3, x3, hs3, ha3⟩ := den_sound hT hI r.body k1 w0 E1 b [] (c :: cs) ⟨c1.t, c1.d, c1.cs, w2⟩ (hcx.mono x1) hs2
              rw [← p2.body] at ha3
              have hto : Steps P (lone c0 cs w00) (lone (fatF b c1.t c1.d [.code r'.body]) c1.cs w2) := .head hst (Steps.trans ha (.one hstep))
              have hcs3 : c3.cs = c :: cs := hs3.u
              have hleave : ∀ (todo : List Item) (jump : Option Code) (w3 : World), (todo = [] ∧ jump = none ∨ (∃ k0, todo = .code .ret :: k0 ∧ jump = some .ret) ∨ ∃ id k0, todo = .code (.exit id) :: k0 ∧ jump = some (.exit id) ∧ exitTo id k0 = none) →
                  (Instr.endRound (E.b l) jump).run P c3.w = .ok (.bool jump.isNone) w3 → step P (lone (fatF b c3.t c3.d todo) c3.cs c3.w) = .next (lone (c.finish (.bool jump.isNone)) cs w3) := by
                intro todo jump w3 hj hrun3
                rw [hcs3]
                refine step_lone_go ?_
                rcases hj with ⟨rfl, rfl⟩ | ⟨k0, rfl, rfl⟩ | ⟨id, k0, rfl, rfl, hk0⟩
                · simp only [fatF, stepG, stepG.exec, b, Sem.runT_eq, hrun3, GStep.bare_after]; rfl
                · simp only [fatF, stepG, stepG.exec, b, Sem.runT_eq, hrun3, GStep.bare_after]; rfl
                · simp only [fatF, stepG, stepG.exec, b, hk0, Option.elim, Sem.runT_eq, hrun3, GStep.bare_after]; rfl
              cases x2 with
              | normal => exact hend (x1.trans x3) hs3 (jump := none) k3 (hto.trans ha3) (fun w3 h3 => hleave [] none w3 (.inl ⟨rfl, rfl⟩) h3)
              | ret =>
                obtain ⟨k0, ha3⟩ := ha3
                exact hend (x1.trans x3) hs3 (jump := some .ret) k3 (hto.trans ha3) (fun w3 h3 => hleave _ _ w3 (.inr (.inl ⟨k0, rfl, rfl⟩)) h3)
              | exit id =>
                obtain ⟨k0, hk0, ha3⟩ := ha3.2 rfl
                exact hend (x1.trans x3) hs3 (jump := some (.exit id)) k3 (hto.trans ha3) (fun w3 h3 => hleave _ _ w3 (.inr (.inr ⟨id, k0, rfl, rfl, hk0⟩)) h3)
              | panic ch =>
                simp only [roundEnd] at k3
                split at k3
                · rename_i hd3; exact hpanic (x1.trans x3) hs3 hd3 k3 hto ha3
                · exact k3.elim
            · exact k1.elim
          · exact k1.elim
      · exact h.elim
    · exact h.elim
end
end Go.Abs
