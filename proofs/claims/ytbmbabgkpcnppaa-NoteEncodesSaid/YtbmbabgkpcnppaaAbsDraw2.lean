/- Operations in an order that is drawn: soundness. -/
import Derived.Test.YtbmbabgkpcnppaaAbsDraw
set_option linter.all false
namespace Go.Abs
open Go

structure IMono (I : Interp) : Prop where
  call : ∀ fv args H K K', I.call fv args H K → (∀ e H, K e H → K' e H) → I.call fv args H K'
  inv : ∀ rv m args H K K', I.inv rv m args H K → (∀ e H, K e H → K' e H) → I.inv rv m args H K'

section
variable {P : Program} {tt : Tab} {I : Interp} {cx : Cx} {l : List Oper} {anc : List (List Nat)} {K : EK}

def putT (t : List Value) (dst : Option Tmp) (v : Value) : List Value := match dst with | some d => t.set d v | none => t
theorem putSt_mk (dst : Option Tmp) (v : Value) (t : List Value) (d : List Deferred) (u : FrameMode) (H : AHeap) (k : St → Prop) : putSt dst v ⟨t, d, u, H⟩ k = k ⟨putT t dst v, d, u, H⟩ := by
  cases dst with
  | none => rfl
  | some i => simp [putSt, setK_eq, putT]
def AgreeL (ds : List Nat) (t t' : List Value) : Prop := ∀ d ∈ ds, t'.getD d undef = t.getD d undef
theorem getD_set_ne {t : List Value} {d e : Nat} {v : Value} (h : d ≠ e) : (t.set d v).getD e undef = t.getD e undef := by
  simp [List.getD, List.getElem?_set_ne h]
theorem agree_put {o : Oper} {t : List Value} {dst : Option Tmp} {v : Value} (h : dstNot dst (looksL l o) = true) : AgreeL (looksL l o) t (putT t dst v) := by
  cases dst with
  | none => intro d _; rfl
  | some e =>
    intro d hd
    have : e ≠ d := by
      intro he; subst he
      simp [dstNot] at h
      exact h hd
    exact getD_set_ne this
theorem AgreeL.symm {ds : List Nat} {t t' : List Value} (h : AgreeL ds t t') : AgreeL ds t' t := fun d hd => (h d hd).symm
theorem put_comm {t : List Value} {a b : Option Tmp} {v u : Value} (h : dstNe a b = true) : putT (putT t a v) b u = putT (putT t b u) a v := by
  cases a with
  | none => cases b <;> rfl
  | some d =>
    cases b with
    | none => rfl
    | some e =>
      have hne : d ≠ e := by
        intro he; subst he; simp [dstNe] at h
      exact List.set_comm _ _ hne
theorem agree_ops {o : Oper} {t t' : List Value} (h : AgreeL (looksL l o) t t') : ∀ x ∈ o.op.operands, AgreeX t t' x := by
  intro x hx i hi
  subst hi
  refine h i ?_
  unfold looksL
  exact List.mem_append_left _ (List.mem_filterMap.2 ⟨.tmp i, by simpa using hx, rfl⟩)
theorem nthK_eq {α : Type} {l : List α} {i : Nat} {x : α} {k : α → Prop} (h : l[i]? = some x) : nthK l i k = k x := by
  refine propext ⟨fun hk => ?_, fun hk => nthK_of h hk⟩
  obtain ⟨y, h1, h2⟩ := nthK_elim hk
  rw [h] at h1
  injection h1 with e
  subst e
  exact h2

/-- a guard says the one or the other, and looks at its slot alone -/
theorem guardK_cases {o : Oper} {s : St} {p q : Prop} (h : guardK l o s p q) :
    (p ∧ ∀ p' q' : Prop, p' → guardK l o s p' q') ∨ (q ∧ ∀ p' q' : Prop, q' → guardK l o s p' q') := by
  unfold guardK at *
  cases hg : o.guard with
  | none => rw [hg] at h; exact .inl ⟨h, fun _ _ h => h⟩
  | some gw =>
    obtain ⟨j, want⟩ := gw
    rw [hg] at h
    simp only at h ⊢
    obtain ⟨oj, hj, h1⟩ := nthK_elim h
    simp only [nthK_eq hj]
    cases hd : oj.dst with
    | none => rw [hd] at h1; exact h1.elim
    | some d =>
      rw [hd] at h1
      simp only [getK_eq] at h1 ⊢
      split at h1
      · cases want
        · rcases condK_elim h1 with ⟨hb, h2⟩ | ⟨hb, h2⟩
          · exact .inr ⟨h2, fun _ _ h => condK_true hb h⟩
          · exact .inl ⟨h2, fun _ _ h => condK_false hb h⟩
        · rcases condK_elim h1 with ⟨hb, h2⟩ | ⟨hb, h2⟩
          · exact .inl ⟨h2, fun _ _ h => condK_true hb h⟩
          · exact .inr ⟨h2, fun _ _ h => condK_false hb h⟩
      · exact .inr ⟨h1, fun _ _ h => h⟩
      · exact h1.elim
theorem guardK_agree {o : Oper} {t t' : List Value} {d d' : List Deferred} {u u' : FrameMode} {H H' : AHeap} {p q : Prop} (ha : AgreeL (looksL l o) t t') : guardK l o ⟨t', d', u', H'⟩ p q = guardK l o ⟨t, d, u, H⟩ p q := by
  unfold guardK
  cases hg : o.guard with
  | none => rfl
  | some gw =>
    obtain ⟨j, want⟩ := gw
    simp only
    cases hj : l[j]? with
    | none =>
      have : ∀ k : Oper → Prop, nthK l j k = False := fun k => propext ⟨fun h => (by obtain ⟨y, h1, _⟩ := nthK_elim h; rw [hj] at h1; exact absurd h1 (by simp)), False.elim⟩
      rw [this, this]
    | some oj =>
      rw [nthK_eq hj, nthK_eq hj]
      cases hd : oj.dst with
      | none => rfl
      | some e =>
        simp only [getK_eq]
        rw [ha e (by unfold looksL; rw [hg]; simp [hj, hd])]

/-- the value of a quiet operation -/
def QV (tt : Tab) (l : List Oper) (o : Oper) (t : List Value) (H : AHeap) (v : Value) : Prop := ∀ (d : List Deferred) (u : FrameMode) (k : Value → Prop), k v → qvK tt l o ⟨t, d, u, H⟩ k
theorem qvK_elim {o : Oper} {t : List Value} {d : List Deferred} {u : FrameMode} {H : AHeap} {k : Value → Prop} (h : qvK tt l o ⟨t, d, u, H⟩ k) : ∃ v, k v ∧ QV tt l o t H v := by
  unfold qvK at h
  rcases guardK_cases h with ⟨h1, h2⟩ | ⟨h1, h2⟩
  · obtain ⟨v, H', h3, h4⟩ := primK_detv o.op _ h1
    refine ⟨v, h3, fun d' u' k' hk => ?_⟩
    unfold qvK
    rw [guardK_agree (t := t) (d := d) (u := u) (H := H) (fun _ _ => rfl)]
    exact h2 _ _ (h4 _ hk)
  · refine ⟨skipV, h1, fun d' u' k' hk => ?_⟩
    unfold qvK
    rw [guardK_agree (t := t) (d := d) (u := u) (H := H) (fun _ _ => rfl)]
    exact h2 _ _ hk
theorem QV.agree {o : Oper} {t t' : List Value} {H : AHeap} {v : Value} (h : QV tt l o t H v) (ha : AgreeL (looksL l o) t t') : QV tt l o t' H v := by
  intro d u k hk
  have := h d u k hk
  unfold qvK at *
  rw [guardK_agree (d := d) (u := u) (H := H) ha]
  dsimp only at *
  rw [primK_agree (agree_ops ha)]
  exact this
theorem QV.pure {o : Oper} {t : List Value} {H H' : AHeap} {v : Value} (h : QV tt l o t H v) (hp : pureOp tt o.op = true) : QV tt l o t H' v := by
  intro d u k hk
  have := h d u k hk
  unfold qvK at *
  rw [guardK_agree (t := t) (d := d) (u := u) (H := H) (fun _ _ => rfl)]
  dsimp only at *
  rcases guardK_cases this with ⟨h1, h2⟩ | ⟨h1, h2⟩
  · exact h2 _ _ (primK_pure hp h1)
  · exact h2 _ _ h1
/-- a quiet operation does what its value says -/
theorem opG_quiet {o : Oper} (hq : quietOp tt o.op = true) {t : List Value} {d : List Deferred} {u : FrameMode} {H : AHeap} {v : Value} (h : QV tt l o t H v) {k : St → Prop} (hk : k ⟨putT t o.dst v, d, u, H⟩) :
    opG tt I cx l o K ⟨t, d, u, H⟩ k := by
  have h0 := h d u (fun v' => k ⟨putT t o.dst v', d, u, H⟩) hk
  unfold qvK at h0
  unfold opG
  rcases guardK_cases h0 with ⟨h1, h2⟩ | ⟨h1, h2⟩
  · refine h2 _ _ ?_
    have hop : ∀ kk : Value → St → Prop, opK tt I cx o.op K ⟨t, d, u, H⟩ kk = primK tt o.op t H fun v H' => kk v ⟨t, d, u, H'⟩ := by
      intro kk
      unfold opK
      dsimp only
      cases hop : o.op <;> first | rfl | skip
      case call c =>
        rw [hop] at hq
        obtain ⟨callee, args, argTypes⟩ := c
        cases callee with
        | value f => simp [quietOp] at hq
        | invoke r m => simp [quietOp] at hq
        | builtin b => cases b <;> first | rfl | exact absurd hq (by simp [quietOp])
      case defer c => rw [hop] at hq; exact absurd hq (by simp [quietOp])
      case panic x => rw [hop] at hq; exact absurd hq (by simp [quietOp])
    rw [hop]
    obtain ⟨v1, H1, h3, h4⟩ := primK_detv o.op _ h1
    obtain ⟨v2, h5, h6⟩ := primK_det (tt := tt) (t := t) (H := H) hq _ h1
    refine h6 _ ?_
    rw [putSt_mk]
    exact h5
  · refine h2 _ _ ?_
    rw [putSt_mk]
    exact h1

/-- an operation at slots that agree where it looks -/
theorem opK_agree (hI : IMono I) {op : Op} {t t' : List Value} {d : List Deferred} {u : FrameMode} {H : AHeap} {K' : EK} {k k' : Value → St → Prop} (h : opK tt I cx op K ⟨t, d, u, H⟩ k)
    (ha : ∀ x ∈ op.operands, AgreeX t t' x) (hK : ∀ ch d u H, K (.panic ch) ⟨t, d, u, H⟩ → K' (.panic ch) ⟨t', d, u, H⟩) (hk : ∀ v d u H, k v ⟨t, d, u, H⟩ → k' v ⟨t', d, u, H⟩) :
    opK tt I cx op K' ⟨t', d, u, H⟩ k' := by
  have prim : primK tt op t H (fun v H' => k v ⟨t, d, u, H'⟩) → primK tt op t' H (fun v H' => k' v ⟨t', d, u, H'⟩) := fun h => by
    rw [primK_agree ha]; exact primK_mono h fun v H' hv => hk _ _ _ _ hv
  have hend : ∀ e H', endK ⟨t, d, u, H⟩ K k e H' → endK ⟨t', d, u, H⟩ K' k' e H' := by
    intro e H' he
    cases e with
    | returned v => exact hk _ _ _ _ he
    | panicked ch => exact hK _ _ _ _ he
  unfold opK at *
  dsimp only at *
  cases op <;> dsimp only at * <;> first
    | exact prim h
    | skip
  case call c =>
    obtain ⟨callee, args, argTypes⟩ := c
    cases callee with
    | value f =>
      dsimp only at *
      rw [evalK_agree (ha f (by simp [Op.operands, Call.operands]))]
      obtain ⟨fv, h1, h2⟩ := det_evalK f _ h
      refine h2 _ ?_
      rw [evalsK_agree (fun x hx => ha x (by simp [Op.operands, Call.operands]; exact .inr (by simpa using hx)))]
      obtain ⟨vs, h3, h4⟩ := det_evalsK _ _ h1
      exact h4 _ (hI.call _ _ _ _ _ h3 hend)
    | invoke r m =>
      dsimp only at *
      rw [evalK_agree (ha r (by simp [Op.operands, Call.operands]))]
      obtain ⟨fv, h1, h2⟩ := det_evalK r _ h
      refine h2 _ ?_
      rw [evalsK_agree (fun x hx => ha x (by simp [Op.operands, Call.operands]; exact .inr (by simpa using hx)))]
      obtain ⟨vs, h3, h4⟩ := det_evalsK _ _ h1
      exact h4 _ (hI.inv _ _ _ _ _ _ h3 hend)
    | builtin b =>
      cases b <;> first | exact prim h | skip
      case recover =>
        dsimp only at *
        unfold recoverK at *
        split at h
        · exact h.elim
        · split at h
          · exact hk _ _ _ _ h
          · dsimp only at *
            split at h
            · exact hk _ _ _ _ h
            · exact hk _ _ _ _ h
            · exact hk _ _ _ _ h
            · exact h.elim
  case defer c =>
    obtain ⟨callee, args, argTypes⟩ := c
    split at h
    · exact h.elim
    · cases callee with
      | value f =>
        dsimp only at *
        rw [evalK_agree (ha f (by simp [Op.operands, Call.operands]))]
        obtain ⟨fv, h1, h2⟩ := det_evalK f _ h
        refine h2 _ ?_
        rw [evalsK_agree (fun x hx => ha x (by simp [Op.operands, Call.operands]; exact .inr (by simpa using hx)))]
        obtain ⟨vs, h3, h4⟩ := det_evalsK _ _ h1
        refine h4 _ ?_
        split at h3
        · exact hk _ _ _ _ h3
        · exact h3.elim
      | invoke r m => exact h.elim
      | builtin b => exact h.elim
  case panic x =>
    rw [evalK_agree (ha x (by simp [Op.operands]))]
    obtain ⟨v, h1, h2⟩ := det_evalK x _ h
    refine h2 _ ?_
    split at h1
    · exact hK _ _ _ _ h1
    · exact h1.elim
theorem opG_agree (hI : IMono I) {o : Oper} {t t' : List Value} {d : List Deferred} {u : FrameMode} {H : AHeap} {K' : EK} {k k' : St → Prop} (h : opG tt I cx l o K ⟨t, d, u, H⟩ k)
    (ha : AgreeL (looksL l o) t t') (hK : ∀ ch d u H, K (.panic ch) ⟨t, d, u, H⟩ → K' (.panic ch) ⟨t', d, u, H⟩) (hk : ∀ v d u H, k ⟨putT t o.dst v, d, u, H⟩ → k' ⟨putT t' o.dst v, d, u, H⟩) :
    opG tt I cx l o K' ⟨t', d, u, H⟩ k' := by
  unfold opG at *
  rw [guardK_agree (d := d) (u := u) (H := H) ha]
  rcases guardK_cases h with ⟨h1, h2⟩ | ⟨h1, h2⟩
  · refine h2 _ _ (opK_agree hI h1 (agree_ops ha) hK fun v d u H hv => ?_)
    rw [putSt_mk] at *
    exact hk _ _ _ _ hv
  · refine h2 _ _ ?_
    rw [putSt_mk] at *
    exact hk _ _ _ _ h1
end
end Go.Abs
