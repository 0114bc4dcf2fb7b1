/- The end of a call: deferred calls, results. -/
import Derived.Test.YtbmbabgkpcnppaaAbsCall
set_option linter.all false
namespace Go.Abs
open Go

section
variable {P : Program} {tt : Tab} {cx : Cx}

theorem dropGo_rel {E : Env} : ∀ {a b : List PanicEntry}, ChRel E a b → ChRel E (a.dropWhile (!·.goexit)) (b.dropWhile (!·.goexit))
  | [], [], _ => trivial
  | p :: ps, q :: qs, h => by
    simp only [List.dropWhile_cons]
    rw [h.1.2.2]
    split
    · exact dropGo_rel h.2
    · exact h
  | [], _ :: _, h => h.elim
  | _ :: _, [], h => h.elim
theorem settle_rel {E : Env} {u m : FrameMode} (h : MRel E u m) : MRel E (settle u) (settle m) := by
  cases u with
  | run => cases m <;> simp_all [MRel, settle]
  | returning => cases m <;> simp_all [MRel, settle]
  | panicking a =>
    cases m with
    | run => exact h.elim
    | returning => exact h.elim
    | panicking b =>
      cases a with
      | nil => cases b with
        | nil => exact h
        | cons _ _ => exact h.elim
      | cons p ps => cases b with
        | nil => exact h.elim
        | cons q qs =>
          obtain ⟨v, r, g⟩ := p
          obtain ⟨v', r', g'⟩ := q
          obtain ⟨⟨h1, h2, h3⟩, h4⟩ := h
          simp only at h2 h3
          subst h2 h3
          cases r' with
          | false => exact ⟨⟨h1, rfl, rfl⟩, h4⟩
          | true =>
            have hd := dropGo_rel h4
            simp only [settle]
            revert hd
            cases ps.dropWhile (!·.goexit) <;> cases qs.dropWhile (!·.goexit) <;> intro hd
            · trivial
            · exact hd.elim
            · exact hd.elim
            · exact hd
theorem raised_rel {E : Env} {u m : FrameMode} {a b : List PanicEntry} (h : MRel E u m) (hc : ChRel E a b) : MRel E (raised u a) (raised m b) := by
  cases u <;> cases m <;> first | exact h.elim | skip
  · exact hc
  · exact hc
  · exact ChRel.append hc h

def rvSem (t' : Array Value) : ResultVar → Sem Value
  | .tmp t => Pure.pure (t'.getD t undef)
  | .cell a t => do loadVar t (← asAddr (t'.getD a undef))
theorem resK_sound (hT : TyOk P tt) {t : List Value} {t' : Array Value} {w0 : World} {E : Env} {H : AHeap} {w : World} (h : Rel w0 E H w) (hr : LRel E t t') :
    ∀ (rs : List ResultVar) {k : List Value → Prop}, resK tt t H rs k → ∃ vs vs', k vs ∧ LRel E vs vs'.toArray ∧
      (rs.mapM (rvSem t')).run P w = .ok vs' w
  | [], k, hk => ⟨[], [], hk, LRel.nil E, rfl⟩
  | .tmp i :: rs, k, hk => by
    simp only [resK_tmp, getK_eq] at hk
    obtain ⟨vs, vs', h1, h2, h3⟩ := resK_sound hT h hr rs hk
    exact ⟨_, t'.getD i undef :: vs', h1, LRel.cons (hr.getD i) h2, by simp [List.mapM_cons, rvSem, h3]⟩
  | .cell a ty :: rs, k, hk => by
    simp only [resK_cell, getK_eq] at hk
    have hv := hr.getD a
    generalize t.getD a undef = v at hk hv
    generalize hv' : t'.getD a undef = v' at hv
    cases hv with
    | ptr i off hlt =>
      obtain ⟨te, ht, hk1⟩ := tyK_elim hk
      obtain ⟨hd, hk2⟩ := okK_elim hk1
      obtain ⟨v, u', a1, a2, a3⟩ := readK_elim (P := P) hT h ht hd hk2
      obtain ⟨vs, vs', h1, h2, h3⟩ := resK_sound hT h hr rs a1
      exact ⟨_, u' :: vs', h1, LRel.cons a3 h2, by simp [List.mapM_cons, rvSem, hv', asAddr, a2, h3]⟩
    | _ => exact hk.elim

theorem results_sound (hT : TyOk P tt) {fn : Func} {t : List Value} {t' : Array Value} {w0 : World} {E : Env} {H : AHeap} {w : World} (h : Rel w0 E H w) (hr : LRel E t t') {k : Value → Prop}
    (hk : resK tt t H fn.results.toList fun vs => valK vs k) : ∃ v v', k v ∧ VRel E v v' ∧ (results fn t').run P w = .ok v' w := by
  obtain ⟨vs, vs', h1, h2, h3⟩ := resK_sound (P := P) hT h hr fn.results.toList hk
  have hrun : (results fn t').run P w = .ok (if h : vs'.toArray.size = 1 then vs'.toArray[0] else .tuple vs'.toArray) w := by
    have he : results fn t' = (fn.results.mapM (rvSem t') >>= fun vs => Pure.pure (if h : vs.size = 1 then vs[0] else .tuple vs)) := by
      unfold results
      rfl
    rw [he]
    simp only [Array.mapM_eq_mapM_toList, Sem.run_bind, Sem.run_map, h3, Result.andThen_ok, Sem.run_pure]
  match vs, h1, h2 with
  | [v], h1, h2 =>
    have hs : vs'.length = 1 := by simpa using h2.size.symm
    obtain ⟨v', rfl⟩ := List.length_eq_one_iff.1 hs
    exact ⟨v, v', h1, by simpa using h2.get 0 (by simp), by simpa using hrun⟩
  | [], h1, h2 =>
    have hs : vs'.length = 0 := by simpa using h2.size.symm
    obtain rfl := List.length_eq_zero_iff.1 hs
    exact ⟨_, .tuple #[], h1, .any _, by simpa using hrun⟩
  | a :: b :: l, h1, h2 =>
    have hs : vs'.length = l.length + 2 := by simpa using h2.size.symm
    refine ⟨_, .tuple vs'.toArray, h1, .tuple _ _ h2.toArray.size h2.toArray.get, ?_⟩
    rw [hrun, dif_neg (by simp; omega)]

/-- deferred calls run, results are read -/
theorem leave_steps (hT : TyOk P tt) {dc : DCall} (hdc : ∀ g args u H K, dc g args u H K → ADef P g args u H K) {fn : Func} {t : List Value} :
    ∀ (ds : List Deferred) (u : FrameMode) (H : AHeap) {K : CK}, leaveK tt dc fn.results.toList t ds u H K →
    ∀ (w0 : World) (E : Env) (w : World) (fr : Frame) (cs : List Frame), Rel w0 E H w → LRel E t fr.tmps → DsRel E ds fr.defers → MRel E u fr.mode → P.funcs[fr.fn]? = some fn →
    ∃ e H' E' w' m', K e H' ∧ Ext E E' ∧ Rel w0 E' H' w' ∧ Steps P (lone fr cs w) (lone { fr with mode := m', defers := [] } cs w') ∧
      (match e with | .returned v => m' = .returning ∧ ∃ v', VRel E' v v' ∧ (results fn fr.tmps).run P w' = .ok v' w' | .panicked ch => ∃ ch', m' = .panicking ch' ∧ ChRel E' ch ch')
  | [], u, H, K, hk, w0, E, w, fr, cs, h1, h2, h3, h4, h5 => by
    have hd : fr.defers = [] := by
      cases hf : fr.defers with
      | nil => rfl
      | cons a b => rw [hf] at h3; exact h3.elim
    have hfr : ∀ m, fr.mode = m → { fr with mode := m, defers := [] } = fr := by intro m hm; subst hm; rw [← hd]
    cases u with
    | run => exact hk.elim
    | returning =>
      have hm : fr.mode = .returning := by cases hf : fr.mode <;> rw [hf] at h4 <;> first | rfl | exact h4.elim
      obtain ⟨v, v', a1, a2, a3⟩ := results_sound (P := P) hT h1 h2 hk
      exact ⟨.returned v, H, E, w, .returning, a1, Ext.refl E, h1, by rw [hfr _ hm]; exact Steps.refl _ _, rfl, v', a2, a3⟩
    | panicking ch =>
      cases hf : fr.mode with
      | run => rw [hf] at h4; exact h4.elim
      | returning => rw [hf] at h4; exact h4.elim
      | panicking ch' =>
        rw [hf] at h4
        exact ⟨.panicked ch, H, E, w, .panicking ch', hk, Ext.refl E, h1, by rw [hfr _ hf]; exact Steps.refl _ _, ch', rfl, h4⟩
  | d :: ds, u, H, K, hk, w0, E, w, fr, cs, h1, h2, h3, h4, h5 => by
    obtain ⟨hu, hk⟩ := notRun_elim hk
    have hm : fr.mode ≠ .run := by
      intro e
      rw [e] at h4
      cases u <;> first | exact hu rfl | exact h4.elim
    cases hf : fr.defers with
    | nil => rw [hf] at h3; exact h3.elim
    | cons d' ds' =>
      rw [hf] at h3
      obtain ⟨⟨ht, ha⟩, hds⟩ := h3
      obtain ⟨tg, as⟩ := d
      obtain ⟨tg', as'⟩ := d'
      simp only at hk ht ha
      cases tg with
      | fn f cap =>
        cases tg' with
        | fn f' cap' =>
          obtain ⟨t1, rfl, t3⟩ := ht
          cases f with
          | func g =>
            obtain ⟨hbody, hA⟩ := hdc _ _ _ _ _ hk
            obtain ⟨e, u', H1, E1, w1, frX, m1, e', k1, x1, r1, en, mr, st, kd, gg⟩ := hA w0 E w (as' ++ cap') h1 ((ARel.toList ha).append (ARel.toList t3)) { fr with defers := ds' } cs h4
            have hinv : (invoke (.fn (.func g) cap') as').run P w = .ok (.enter g (as' ++ cap')) w := callFunc_run hbody _ _
            have hst0 := step_defer (P := P) (cs := cs) hm hf rfl hinv
            cases e with
            | returned v =>
              cases e' with
              | returned v' =>
                have hst1 := step_going_returned (P := P) (c := { { fr with defers := ds' } with mode := m1 }) (cs := cs) kd gg
                obtain ⟨e, H', E', w', m', q1, q2, q3, q4, q5⟩ := leave_steps hT hdc ds (settle u') H1 k1 w0 E1 w1 { fr with defers := ds', mode := settle m1 } cs r1 (h2.mono x1) (hds.mono x1) (settle_rel mr) h5
                exact ⟨e, H', E', w', m', q1, x1.trans q2, q3, .head hst0 (st.trans (.head hst1 q4)), q5⟩
              | _ => exact en.elim
            | panicked ch =>
              cases e' with
              | panicked ch' =>
                have hst1 := step_going_panicked (P := P) (c := { { fr with defers := ds' } with mode := m1 }) (cs := cs) gg
                obtain ⟨e, H', E', w', m', q1, q2, q3, q4, q5⟩ := leave_steps hT hdc ds (raised u' ch) H1 k1 w0 E1 w1 { fr with defers := ds', mode := raised m1 ch' } cs r1 (h2.mono x1) (hds.mono x1) (raised_rel mr en) h5
                exact ⟨e, H', E', w', m', q1, x1.trans q2, q3, .head hst0 (st.trans (.head hst1 q4)), q5⟩
              | _ => exact en.elim
          | _ => exact hk.elim
        | _ => exact ht.elim
      | collected r =>
        cases tg' with
        | collected r' =>
          obtain ⟨t1, rfl⟩ := ht
          simp only at hk
          obtain ⟨ob, hg, hk⟩ := heapK_elim hk
          split at hk
          · obtain ⟨_, _, dd, p1, p2⟩ := h1.obj r _ hg
            have hdd : dd = [] := by cases dd with
              | nil => rfl
              | cons _ _ => exact p2.elim
            subst hdd
            have hrun : (Instr.takeDeferred (E.b r)).run P w = .ok [] { w with heap := w.heap.setIfInBounds (E.b r) (.deferred none) } := by
              have hlt := (Array.getElem?_eq_some_iff.1 p1).1
              simp [Instr.takeDeferred, getObj, setObj, Sem.run, p1]
            have hst : step P (lone fr cs w) = .next (lone { fr with defers := ds' } cs { w with heap := w.heap.setIfInBounds (E.b r) (.deferred none) }) := by
              refine step_lone_go ?_
              cases hmm : fr.mode with
              | run => exact absurd hmm hm
              | returning => simp [stepG, unwind, hmm, hf, hrun]
              | panicking ch => simp [stepG, unwind, hmm, hf, hrun]
            have hR := h1.writeDead hg rfl (w' := { w with heap := w.heap.setIfInBounds (E.b r) (.deferred none) }) (by simp) rfl rfl rfl (fun b hb => by simp [Array.getElem?_setIfInBounds_ne (Ne.symm hb)])
            obtain ⟨e, H', E', w', m', q1, q2, q3, q4, q5⟩ := leave_steps hT hdc ds u (H.kill r) hk w0 E _ { fr with defers := ds' } cs hR h2 hds h4 h5
            exact ⟨e, H', E', w', m', q1, q2, q3, .head hst q4, q5⟩
          · exact hk.elim
        | _ => exact ht.elim
      | _ => exact hk.elim

theorem step_end_fat {b : Frame} {t : Array Value} {d : List Deferred} {cs : List Frame} {w : World} (hro : b.roundOf = none) :
    step P (lone (fatF b t d []) cs w) = .next (lone { fatF b t d [] with mode := .returning } cs w) := step_lone_go (by simp only [fatF]; simp [stepG, stepG.exec, hro])
theorem step_ret_fat {b : Frame} {t : Array Value} {d : List Deferred} {cs : List Frame} {w : World} {k : List Item} (hro : b.roundOf = none) :
    step P (lone (fatF b t d (.code .ret :: k)) cs w) = .next (lone { fatF b t d (.code .ret :: k) with mode := .returning } cs w) := step_lone_go (by simp only [fatF]; simp [stepG, stepG.exec, hro])
def fnOf (P : Program) (f : FuncId) (fn : Func) (c : Code) : Prop := P.funcs[f]? = some fn ∧ fn.body = some c

/-- a function's body, walked: its call -/
theorem acall_of (hT : TyOk P tt) {dc : DCall} (hdc : ∀ g args u H K, dc g args u H K → ADef P g args u H K) {f : FuncId} {fn : Func} {c : Code} (hf : P.funcs[f]? = some fn) (hb : fn.body = some c)
    {args : List Value} {H : AHeap} {K : CK}
    (h : AWp P ⟨false, none, f⟩ c (bodyK tt dc fn.results.toList fun e _ H' => K e H') ⟨args ++ List.replicate (fn.ntmps - args.length) undef, [], .run, H⟩) : ACall P f args H K := by
  intro w0 E w args' h1 h2 cs
  let b : Frame := { (default : Frame) with fn := f, kind := .normal }
  have hent : Frame.enter P f args' .normal = fatF b (args' ++ Array.replicate (fn.ntmps - args'.size) undef) [] [.code c] := by
    simp [Frame.enter, fatF, hf, hb, b]
    rfl
  have hr : SRel w0 E ⟨false, none, f⟩ cs ⟨args ++ List.replicate (fn.ntmps - args.length) undef, [], .run, H⟩ ⟨args' ++ Array.replicate (fn.ntmps - args'.size) undef, [], cs, w⟩ :=
    ⟨h1, by rw [h2.size]; exact h2.append (LRel.replicate _ (.any _)), trivial, rfl⟩
  obtain ⟨x, s', E1, c1, hK, hE, hr1, ha⟩ := h w0 E b [] cs ⟨_, [], cs, w⟩ ⟨rfl, rfl, rfl⟩ hr
  have hcs : c1.cs = cs := hr1.u
  have fin : ∀ (todo : List Item) (m : FrameMode) (u : FrameMode), MRel E1 u m → leaveK tt dc fn.results.toList s'.t s'.d u s'.H (fun e H' => K e H') →
      Steps P (lone (fatF b (args' ++ Array.replicate (fn.ntmps - args'.size) undef) [] [.code c]) cs w) (lone { fatF b c1.t c1.d todo with mode := m } cs c1.w) →
      ∃ e H' E' w' fr e', K e H' ∧ Ext E E' ∧ Rel w0 E' H' w' ∧ EndR E' e e' ∧ Steps P (lone (Frame.enter P f args' .normal) cs w) (lone fr cs w') ∧ fr.fn = f ∧ fr.leaving P w' e' := by
    intro todo m u hm hl hst
    obtain ⟨e, H', E', w', m', q1, q2, q3, q4, q5⟩ := leave_steps (P := P) hT hdc s'.d u s'.H hl w0 E1 c1.w { fatF b c1.t c1.d todo with mode := m } cs hr1.rel hr1.t hr1.d hm hf
    cases e with
    | returned v =>
      obtain ⟨rfl, v', p1, p2⟩ := q5
      exact ⟨_, H', E', w', { fatF b c1.t c1.d todo with mode := .returning, defers := [] }, .returned v', q1, hE.trans q2, q3, p1, by rw [hent]; exact hst.trans q4, rfl, rfl, rfl, rfl, fn, hf, p2⟩
    | panicked ch =>
      obtain ⟨ch', rfl, p1⟩ := q5
      exact ⟨_, H', E', w', { fatF b c1.t c1.d todo with mode := .panicking ch', defers := [] }, .panicked ch', q1, hE.trans q2, q3, p1, by rw [hent]; exact hst.trans q4, rfl, rfl, rfl, fn, hf⟩
  have hst0 := ha
  cases x with
  | normal =>
    have hend : step P (lone (fatF b c1.t c1.d []) c1.cs c1.w) = .next (lone { fatF b c1.t c1.d [] with mode := .returning } c1.cs c1.w) := step_end_fat rfl
    rw [hcs] at hend
    have ha' : Steps P _ (lone (fatF b c1.t c1.d []) c1.cs c1.w) := ha
    rw [hcs] at ha'
    exact fin [] .returning .returning trivial hK (ha'.trans (.one hend))
  | ret =>
    obtain ⟨k0, ha'⟩ := ha
    have hend : step P (lone (fatF b c1.t c1.d (.code .ret :: k0)) c1.cs c1.w) = .next (lone { fatF b c1.t c1.d (.code .ret :: k0) with mode := .returning } c1.cs c1.w) := step_ret_fat rfl
    rw [hcs] at hend ha'
    exact fin _ .returning .returning trivial hK (ha'.trans (.one hend))
  | panic ch =>
    obtain ⟨todo, ch', hc, ha'⟩ := ha
    rw [hcs] at ha'
    exact fin todo (.panicking ch') (.panicking ch) hc hK ha'
  | exit id => exact hK.elim

theorem adef_of (hT : TyOk P tt) {dc : DCall} (hdc : ∀ g args u H K, dc g args u H K → ADef P g args u H K) {f : FuncId} {fn : Func} {c : Code} (hf : P.funcs[f]? = some fn) (hb : fn.body = some c) (hbody : hasBody P f = true)
    {args : List Value} {u : FrameMode} {H : AHeap} {K : AEnd → FrameMode → AHeap → Prop}
    (h : AWp P ⟨true, none, f⟩ c (bodyK tt dc fn.results.toList K) ⟨args ++ List.replicate (fn.ntmps - args.length) undef, [], u, H⟩) : ADef P f args u H K := by
  refine ⟨hbody, ?_⟩
  intro w0 E w args' h1 h2 cc cs hu
  let b : Frame := { (default : Frame) with fn := f, kind := .deferred }
  have hent : Frame.enter P f args' .deferred = fatF b (args' ++ Array.replicate (fn.ntmps - args'.size) undef) [] [.code c] := by
    simp [Frame.enter, fatF, hf, hb, b]
    rfl
  have hr : SRel w0 E ⟨true, none, f⟩ (cc :: cs) ⟨args ++ List.replicate (fn.ntmps - args.length) undef, [], u, H⟩ ⟨args' ++ Array.replicate (fn.ntmps - args'.size) undef, [], cc :: cs, w⟩ :=
    ⟨h1, by rw [h2.size]; exact h2.append (LRel.replicate _ (.any _)), trivial, cc, cs, cc.mode, rfl, rfl, hu⟩
  obtain ⟨x, s', E1, c1, hK, hE, hr1, ha⟩ := h w0 E b [] (cc :: cs) ⟨_, [], cc :: cs, w⟩ ⟨rfl, rfl, rfl⟩ hr
  obtain ⟨f0, r0, m0, hcs0, hcs, hm0⟩ := hr1.u
  cases hcs0
  have fin : ∀ (todo : List Item) (m : FrameMode) (v : FrameMode), MRel E1 v m → leaveK tt dc fn.results.toList s'.t s'.d v s'.H (fun e H' => K e s'.u H') →
      Steps P (lone (fatF b (args' ++ Array.replicate (fn.ntmps - args'.size) undef) [] [.code c]) (cc :: cs) w) (lone { fatF b c1.t c1.d todo with mode := m } ({ cc with mode := m0 } :: cs) c1.w) →
      ∃ e u' H' E' w' fr m' e', K e u' H' ∧ Ext E E' ∧ Rel w0 E' H' w' ∧ EndR E' e e' ∧ MRel E' u' m' ∧
        Steps P (lone (Frame.enter P f args' .deferred) (cc :: cs) w) (lone fr ({ cc with mode := m' } :: cs) w') ∧ fr.kind = .deferred ∧ fr.going P w' e' := by
    intro todo m v hm hl hst
    obtain ⟨e, H', E', w', m', q1, q2, q3, q4, q5⟩ := leave_steps (P := P) hT hdc s'.d v s'.H hl w0 E1 c1.w { fatF b c1.t c1.d todo with mode := m } ({ cc with mode := m0 } :: cs) hr1.rel hr1.t hr1.d hm hf
    cases e with
    | returned v =>
      obtain ⟨rfl, v', p1, p2⟩ := q5
      exact ⟨_, s'.u, H', E', w', { fatF b c1.t c1.d todo with mode := .returning, defers := [] }, m0, .returned v', q1, hE.trans q2, q3, p1, hm0.mono q2, by rw [hent]; exact hst.trans q4, rfl, rfl, rfl, fn, hf, p2⟩
    | panicked ch =>
      obtain ⟨ch', rfl, p1⟩ := q5
      exact ⟨_, s'.u, H', E', w', { fatF b c1.t c1.d todo with mode := .panicking ch', defers := [] }, m0, .panicked ch', q1, hE.trans q2, q3, p1, hm0.mono q2, by rw [hent]; exact hst.trans q4, rfl, rfl, rfl, fn, hf⟩
  cases x with
  | normal =>
    have hend : step P (lone (fatF b c1.t c1.d []) c1.cs c1.w) = .next (lone { fatF b c1.t c1.d [] with mode := .returning } c1.cs c1.w) := step_end_fat rfl
    have ha' : Steps P _ (lone (fatF b c1.t c1.d []) c1.cs c1.w) := ha
    rw [hcs] at hend ha'
    exact fin [] .returning .returning trivial hK (ha'.trans (.one hend))
  | ret =>
    obtain ⟨k0, ha'⟩ := ha
    have hend : step P (lone (fatF b c1.t c1.d (.code .ret :: k0)) c1.cs c1.w) = .next (lone { fatF b c1.t c1.d (.code .ret :: k0) with mode := .returning } c1.cs c1.w) := step_ret_fat rfl
    rw [hcs] at hend ha'
    exact fin _ .returning .returning trivial hK (ha'.trans (.one hend))
  | panic ch =>
    obtain ⟨todo, ch', hc, ha'⟩ := ha
    rw [hcs] at ha'
    exact fin todo (.panicking ch') (.panicking ch) hc hK ha'
  | exit id => exact hK.elim
end
end Go.Abs
