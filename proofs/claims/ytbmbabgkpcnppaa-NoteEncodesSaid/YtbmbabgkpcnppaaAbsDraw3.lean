/- Operations in an order that is drawn: any order does what the plan says. -/
import Derived.Test.YtbmbabgkpcnppaaAbsDraw2
import Derived.Orders
set_option linter.all false
namespace Go.Abs
open Go

section
variable {P : Program} {tt : Tab} {I : Interp} {cx : Cx} {l : List Oper} {anc : List (List Nat)} {K : EK}

def look (D : List (Nat × Value)) (m : Nat) : Option Value :=
  match D with
  | [] => none
  | (i, v) :: D => match Nat.beq i m with | true => some v | false => look D m
theorem assocK_iff : ∀ {D : List (Nat × Value)} {m : Nat} {k : Value → Prop}, assocK D m k ↔ ∃ v, look D m = some v ∧ k v
  | [], m, k => by simp [assocK, look]
  | (i, v) :: D, m, k => by
    unfold assocK look
    cases Nat.beq i m with
    | true => simp
    | false => exact assocK_iff
theorem look_cons (D : List (Nat × Value)) (i m : Nat) (v : Value) : look ((i, v) :: D) m = if i = m then some v else look D m := by
  show (match Nat.beq i m with | true => some v | false => look D m) = _
  by_cases h : i = m
  · subst h; simp
  · have : Nat.beq i m = false := by cases hb : Nat.beq i m with | false => rfl | true => exact absurd (Nat.eq_of_beq_eq_true hb) h
    simp [this, h]

theorem recheckK_iff : ∀ {rc : List Nat} {D : List (Nat × Value)} {t : List Value} {d : List Deferred} {u : FrameMode} {H : AHeap} {p : Prop},
    recheckK tt l rc D ⟨t, d, u, H⟩ p ↔ p ∧ ∀ m ∈ rc, ∃ v o, look D m = some v ∧ l[m]? = some o ∧ QV tt l o t H v
  | [], D, t, d, u, H, p => by simp [recheckK_nil]
  | m :: rc, D, t, d, u, H, p => by
    have ih := @recheckK_iff rc D t d u H p
    simp only [recheckK_cons, assocK_iff]
    constructor
    · rintro ⟨v, h1, h2⟩
      obtain ⟨o, ho, h3⟩ := nthK_elim h2
      obtain ⟨v', h45, h5⟩ := qvK_elim h3
      obtain ⟨e, h4⟩ := sameK_iff.1 h45
      subst e
      obtain ⟨a, b⟩ := ih.1 h4
      refine ⟨a, fun x hx => ?_⟩
      rcases List.mem_cons.1 hx with e | hx
      · subst e; exact ⟨v', o, h1, ho, h5⟩
      · exact b x hx
    · rintro ⟨a, b⟩
      obtain ⟨v, o, h1, h2, h3⟩ := b m (by simp)
      refine ⟨v, h1, nthK_of h2 (h3 _ _ _ (sameK_rfl (ih.2 ⟨a, fun x hx => b x (by simp [hx])⟩)))⟩

theorem altK_iff {rest : Plan} {a b : Prop} : altK rest a b ↔ a ∧ (rest = .stop ∨ b) := by
  cases rest <;> simp [altK]

/-- where what was found is looked up alike, a plan does alike -/
theorem planK_congr : ∀ (p : Plan) {D D' : List (Nat × Value)} {s : St}, (∀ m, look D' m = look D m) → planK tt I cx l K p D s → IMono I → planK tt I cx l K p D' s
  | .done, _, _, _, _, h, _ => h
  | .stop, _, _, _, _, _, _ => trivial
  | .quiet i p, D, D', s, hl, h, hI => by
    obtain ⟨t, d, u, H⟩ := s
    simp only [planK_quiet, planK_alt] at *
    obtain ⟨o, ho, h1⟩ := nthK_elim h
    obtain ⟨v, h2, h3⟩ := qvK_elim h1
    refine nthK_of ho (h3 _ _ _ ?_)
    rw [putSt_mk] at *
    exact planK_congr p (fun m => by rw [look_cons, look_cons, hl]) h2 hI
  | .alt j rc p rest, D, D', s, hl, h, hI => by
    obtain ⟨t, d, u, H⟩ := s
    simp only [planK_quiet, planK_alt] at *
    rw [altK_iff] at *
    refine ⟨?_, h.2.imp id fun h => planK_congr rest hl h hI⟩
    obtain ⟨o, ho, h1⟩ := nthK_elim h.1
    refine nthK_of ho (opG_agree hI h1 (fun _ _ => rfl) (fun _ _ _ _ h => h) fun v d u H hk => ?_)
    rw [recheckK_iff] at *
    exact ⟨planK_congr p hl hk.1 hI, fun m hm => by rw [hl]; exact hk.2 m hm⟩

/-- what a panic forgets -/
def Forgets (l : List Oper) (K : EK) : Prop := ∀ (o : Oper) (i : Nat) (v : Value) ch t d u H, l[i]? = some o → K (.panic ch) ⟨putT t o.dst v, d, u, H⟩ → K (.panic ch) ⟨t, d, u, H⟩

/-- two quiet operations -/
theorem swap_quiet {oi oj : Oper} (hap : apartB l oi oj = true) {s : St} {k : Value → Value → St → Prop}
    (h : qvK tt l oi s fun v => putSt oi.dst v s fun s1 => qvK tt l oj s1 fun v' => putSt oj.dst v' s1 fun s2 => k v v' s2) :
    qvK tt l oj s fun v' => putSt oj.dst v' s fun s1 => qvK tt l oi s1 fun v => putSt oi.dst v s1 fun s2 => k v v' s2 := by
  obtain ⟨t, d, u, H⟩ := s
  simp only [apartB, Bool.and_eq_true] at hap
  obtain ⟨⟨a1, a2⟩, a3⟩ := hap
  obtain ⟨v, h1, q1⟩ := qvK_elim h
  rw [putSt_mk] at h1
  obtain ⟨v', h2, q2⟩ := qvK_elim h1
  refine (q2.agree (agree_put a1).symm) _ _ _ ?_
  rw [putSt_mk]
  refine (q1.agree (agree_put a3)) _ _ _ ?_
  rw [putSt_mk] at *
  rw [← put_comm a2]
  exact h2
/-- a quiet operation, then another -/
theorem swap_bar (hI : IMono I) (hK : Forgets l K) {oi oj : Oper} {i : Nat} (hi : l[i]? = some oi) (hq : quietOp tt oi.op = true) (hap : apartB l oi oj = true) {rc : List Nat} (hpi : loadish tt oi = false ∨ (i ∈ rc ∧ dstNot oi.dst (looksL l oi) = true))
    (hrc : ∀ m ∈ rc, m ≠ i → ∀ om, l[m]? = some om → dstNot oi.dst (looksL l om) = true) {D : List (Nat × Value)} {s : St} {k : Value → St → Prop}
    (h : qvK tt l oi s fun v => putSt oi.dst v s fun s1 => opG tt I cx l oj K s1 fun s2 => recheckK tt l rc ((i, v) :: D) s2 (k v s2)) :
    opG tt I cx l oj K s fun s1 => recheckK tt l (rc.filter fun m => !Nat.beq m i) D s1 (qvK tt l oi s1 fun v => putSt oi.dst v s1 fun s2 => k v s2) := by
  obtain ⟨t, d, u, H⟩ := s
  simp only [apartB, Bool.and_eq_true] at hap
  obtain ⟨⟨a1, a2⟩, a3⟩ := hap
  obtain ⟨v, h1, q1⟩ := qvK_elim h
  rw [putSt_mk] at h1
  refine opG_agree hI h1 (agree_put a1).symm (fun ch d u H hp => hK _ _ _ _ _ _ _ _ hi hp) fun vj d u H hk => ?_
  rw [recheckK_iff] at *
  obtain ⟨h2, h3⟩ := hk
  have hqi : QV tt l oi (putT t oj.dst vj) H v := by
    rcases hpi with hp | ⟨hm, hd⟩
    · have : pureOp tt oi.op = true := by simpa [loadish, hq] using hp
      exact (q1.agree (agree_put a3)).pure this
    · obtain ⟨v', o, l1, l2, l3⟩ := h3 i hm
      rw [look_cons, if_pos rfl] at l1
      injection l1 with e
      rw [hi] at l2
      injection l2 with e'
      subst e e'
      have hc : putT (putT t oi.dst v) oj.dst vj = putT (putT t oj.dst vj) oi.dst v := put_comm a2
      rw [hc] at l3
      exact l3.agree (agree_put hd).symm
  refine ⟨hqi _ _ _ ?_, fun m hm => ?_⟩
  · rw [putSt_mk, ← put_comm a2]
    exact h2
  · simp only [List.mem_filter, Bool.not_eq_true'] at hm
    obtain ⟨hm, hne⟩ := hm
    have hne : m ≠ i := fun e => by subst e; simp at hne
    obtain ⟨v', o, l1, l2, l3⟩ := h3 m hm
    rw [look_cons, if_neg (Ne.symm hne)] at l1
    refine ⟨v', o, l1, l2, ?_⟩
    have hc : putT (putT t oi.dst v) oj.dst vj = putT (putT t oj.dst vj) oi.dst v := put_comm a2
    rw [hc] at l3
    exact l3.agree (agree_put (hrc m hm hne o l2)).symm

def Inv (anc : List (List Nat)) (d : Nat → Prop) : Prop := ∀ j, d j → ∀ a, A anc j a → d a
theorem anc_in (hg : Good tt l anc) {d : Nat → Prop} (hd : Inv anc d) {j : Nat} (hr : Rdy l d j) {a : Nat} (ha : A anc j a) : d a := by
  obtain ⟨o, ho, _, h⟩ := hr
  rcases hg.closed j o ho a ha with h1 | ⟨e, he, h1⟩
  · exact h a h1
  · exact hd e (h e he) a h1
theorem Inv.add (hg : Good tt l anc) {d : Nat → Prop} (hd : Inv anc d) {j : Nat} (hr : Rdy l d j) : Inv anc (add d j) := by
  intro x hx a ha
  rcases hx with e | hx
  · subst e; exact .inr (anc_in hg hd hr ha)
  · exact .inr (hd x hx a ha)
theorem rdy_add {d : Nat → Prop} {i j : Nat} (hr : Rdy l d j) (hne : j ≠ i) : Rdy l (Go.Abs.add d i) j := by
  obtain ⟨o, ho, h1, h2⟩ := hr
  exact ⟨o, ho, fun h => h.elim hne h1, fun e he => .inr (h2 e he)⟩
theorem add_comm' (d : Nat → Prop) (i j : Nat) : Go.Abs.add (Go.Abs.add d i) j = Go.Abs.add (Go.Abs.add d j) i := by
  funext x; simp only [Go.Abs.add]; exact propext ⟨fun h => by rcases h with h | h | h <;> simp [h], fun h => by rcases h with h | h | h <;> simp [h]⟩
theorem not_anc (hg : Good tt l anc) {d : Nat → Prop} (hd : Inv anc d) {i j : Nat} (hr : Rdy l d j) (hi : ¬ d i) : ¬ A anc j i := fun h => hi (anc_in hg hd hr h)
theorem Rdy.not {d : Nat → Prop} {i : Nat} (h : Rdy l d i) : ¬ d i := let ⟨_, _, h, _⟩ := h; h

/-- a quiet operation that is ready may be done first -/
theorem bubble_quiet (hI : IMono I) (hg : Good tt l anc) {j : Nat} {oj : Oper} (hj : l[j]? = some oj) (hq : quietOp tt oj.op = true) : ∀ (p : Plan) (d : Nat → Prop) (c : List Nat), Inv anc d → Rdy l d j → Valid tt l anc p c d → (c = [] ∨ j ∉ c) →
    ∃ p', Valid tt l anc p' [] (add d j) ∧ ∀ s D, planK tt I cx l K p D s → qvK tt l oj s fun v => putSt oj.dst v s fun s1 => planK tt I cx l K p' ((j, v) :: D) s1
  | .done, d, c, _, hr, hv, _ => (hv.2 j hr).elim
  | .stop, d, c, _, hr, hv, hc => by
    rcases hc with hc | hc
    · exact absurd hc hv.1
    · exact absurd (hv.2 j hr) hc
  | .alt j' rc p rest, d, c, hd, hr, hv, hc => by
    obtain ⟨h1, ⟨o, ho, hno⟩, h3, h4, h5⟩ := hv
    have hne : j ≠ j' := by
      intro e; subst e; rw [hj] at ho; injection ho with e; subst e; rw [hq] at hno; exact absurd hno (by simp)
    exfalso
    -- the rest must cover j, which is quiet
    have key : ∀ (q : Plan) (c : List Nat), c ≠ [] → j ∉ c → Valid tt l anc q c d → False := by
      intro q
      induction q with
      | done => intro c hc _ hv; exact hc hv.1
      | quiet i p _ => intro c hc _ hv; exact hc hv.1
      | stop => intro c _ hjc hv; exact hjc (hv.2 j hr)
      | alt j2 rc2 p2 rest2 _ ih2 =>
        intro c hc hjc hv
        obtain ⟨_, ⟨o2, ho2, hno2⟩, _, _, h52⟩ := hv
        refine ih2 (j2 :: c) (by simp) ?_ h52
        intro hm
        rcases List.mem_cons.1 hm with e | hm
        · subst e; rw [hj] at ho2; injection ho2 with e; subst e; rw [hq] at hno2; exact absurd hno2 (by simp)
        · exact hjc hm
    refine key rest (j' :: c) (by simp) ?_ h5
    intro hm
    rcases List.mem_cons.1 hm with e | hm
    · exact hne e
    · rcases hc with hc | hc
      · subst hc; exact absurd hm (by simp)
      · exact hc hm
  | .quiet i p, d, c, hd, hr, hv, hc => by
    obtain ⟨h0, h1, ⟨oi, ho, hqi⟩, h3⟩ := hv
    by_cases hij : i = j
    · subst hij
      rw [hj] at ho; injection ho with e; subst e
      refine ⟨p, h3, fun s D h => ?_⟩
      simp only [planK_quiet, planK_alt] at h
      rw [nthK_eq hj] at h
      exact h
    · have hr' := rdy_add (i := i) hr (Ne.symm hij)
      obtain ⟨p', hv', hp'⟩ := bubble_quiet hI hg hj hq p (add d i) [] (hd.add hg h1) hr' h3 (.inl rfl)
      refine ⟨.quiet i p', ⟨rfl, rdy_add h1 hij, ⟨oi, ho, hqi⟩, by rw [add_comm']; exact hv'⟩, fun s D h => ?_⟩
      have hap : apartB l oi oj = true := hg.pairs i j oi oj ho hj hqi hij (not_anc hg hd hr h1.not) (not_anc hg hd h1 hr.not)
      simp only [planK_quiet, planK_alt] at h ⊢
      rw [nthK_eq ho] at h
      simp only [nthK_eq ho]
      obtain ⟨t, dd, u, H⟩ := s
      have h' : qvK tt l oi ⟨t, dd, u, H⟩ fun v => putSt oi.dst v ⟨t, dd, u, H⟩ fun s1 => qvK tt l oj s1 fun v' => putSt oj.dst v' s1 fun s2 => planK tt I cx l K p' ((j, v') :: (i, v) :: D) s2 := by
        obtain ⟨v, g1, g2⟩ := qvK_elim h
        refine g2 _ _ _ ?_
        rw [putSt_mk] at *
        exact hp' _ _ g1
      have := swap_quiet hap (k := fun v v' s2 => planK tt I cx l K p' ((j, v') :: (i, v) :: D) s2) h'
      obtain ⟨v', g1, g2⟩ := qvK_elim this
      refine g2 _ _ _ ?_
      rw [putSt_mk] at *
      obtain ⟨v, g3, g4⟩ := qvK_elim g1
      refine g4 _ _ _ ?_
      rw [putSt_mk] at *
      refine planK_congr p' (fun m => ?_) g3 hI
      simp only [look_cons]
      by_cases e1 : i = m
      · by_cases e2 : j = m
        · exact absurd (e1.trans e2.symm) hij
        · simp [e1, e2]
      · simp [e1]

/-- so may another operation that is ready -/
theorem bubble_bar (hI : IMono I) (hg : Good tt l anc) (hK : Forgets l K) {j : Nat} {oj : Oper} (hj : l[j]? = some oj) (hq : quietOp tt oj.op = false) : ∀ (p : Plan) (d : Nat → Prop) (c : List Nat), Inv anc d → Rdy l d j → Valid tt l anc p c d → (c = [] ∨ j ∉ c) →
    ∃ rc p', RcOk tt l anc d j rc ∧ Valid tt l anc p' [] (add d j) ∧ ∀ s D, planK tt I cx l K p D s → opG tt I cx l oj K s fun s1 => recheckK tt l rc D s1 (planK tt I cx l K p' D s1)
  | .done, d, c, _, hr, hv, _ => (hv.2 j hr).elim
  | .stop, d, c, _, hr, hv, hc => by
    rcases hc with hc | hc
    · exact absurd hc hv.1
    · exact absurd (hv.2 j hr) hc
  | .alt j' rc p rest, d, c, hd, hr, hv, hc => by
    obtain ⟨h1, ⟨o, ho, hno⟩, h3, h4, h5⟩ := hv
    by_cases hjj : j = j'
    · subst hjj
      refine ⟨rc, p, h3, h4, fun s D h => ?_⟩
      simp only [planK_quiet, planK_alt] at h
      rw [altK_iff, nthK_eq hj] at h
      exact h.1
    · obtain ⟨rc2, p2, a1, a2, a3⟩ := bubble_bar hI hg hK hj hq rest d (j' :: c) hd hr h5 (.inr (by
        intro hm
        rcases List.mem_cons.1 hm with e | hm
        · exact hjj e
        · rcases hc with hc | hc
          · subst hc; exact absurd hm (by simp)
          · exact hc hm))
      refine ⟨rc2, p2, a1, a2, fun s D h => a3 s D ?_⟩
      simp only [planK_quiet, planK_alt] at h
      rw [altK_iff] at h
      rcases h.2 with e | h
      · subst e
        -- nothing follows, so j is covered
        exfalso
        have := h5.2 j hr
        rcases List.mem_cons.1 this with e | hm
        · exact hjj e
        · rcases hc with hc | hc
          · subst hc; exact absurd hm (by simp)
          · exact hc hm
      · exact h
  | .quiet i p, d, c, hd, hr, hv, hc => by
    obtain ⟨h0, h1, ⟨oi, ho, hqi⟩, h3⟩ := hv
    have hij : i ≠ j := by
      intro e; subst e; rw [hj] at ho; injection ho with e; subst e; rw [hqi] at hq; exact absurd hq (by simp)
    have hr' := rdy_add (i := i) hr (Ne.symm hij)
    have hd' := hd.add hg h1
    obtain ⟨rc, p', hrc, hv', hp'⟩ := bubble_bar hI hg hK hj hq p (add d i) [] hd' hr' h3 (.inl rfl)
    have nji : ¬ A anc j i := not_anc hg hd hr h1.not
    have nij : ¬ A anc i j := not_anc hg hd h1 hr.not
    have hap : apartB l oi oj = true := hg.pairs i j oi oj ho hj hqi hij nji nij
    have nii : ¬ A anc i i := not_anc hg hd h1 h1.not
    refine ⟨rc.filter fun m => !Nat.beq m i, .quiet i p', ⟨fun m hm => ?_, fun m o hm hdm hl hA => ?_⟩, ⟨rfl, rdy_add h1 hij, ⟨oi, ho, hqi⟩, by rw [add_comm']; exact hv'⟩, fun s D h => ?_⟩
    · simp only [List.mem_filter, Bool.not_eq_true'] at hm
      obtain ⟨b1, b2, b3⟩ := hrc.1 m hm.1
      refine ⟨b1.elim (fun e => ?_) id, b2, b3⟩
      subst e; simp at hm
    · simp only [List.mem_filter, Bool.not_eq_true']
      refine ⟨hrc.2 m o hm (.inr hdm) hl hA, ?_⟩
      cases hb : Nat.beq m i with
      | false => rfl
      | true => exact absurd (Nat.eq_of_beq_eq_true hb ▸ hdm) h1.not
    · simp only [planK_quiet, planK_alt] at h ⊢
      rw [nthK_eq ho] at h
      simp only [nthK_eq ho]
      obtain ⟨t, dd, u, H⟩ := s
      have h' : qvK tt l oi ⟨t, dd, u, H⟩ fun v => putSt oi.dst v ⟨t, dd, u, H⟩ fun s1 => opG tt I cx l oj K s1 fun s2 => recheckK tt l rc ((i, v) :: D) s2 (planK tt I cx l K p' ((i, v) :: D) s2) := by
        obtain ⟨v, g1, g2⟩ := qvK_elim h
        refine g2 _ _ _ ?_
        rw [putSt_mk] at *
        exact hp' _ _ g1
      refine swap_bar hI hK ho hqi hap ?_ ?_ (k := fun v s2 => planK tt I cx l K p' ((i, v) :: D) s2) h'
      · cases hl : loadish tt oi with
        | false => exact .inl rfl
        | true => exact .inr ⟨hrc.2 i oi ho (.inl rfl) hl nji, hg.recs i i j oi oi oj ho ho hj hl hqi hq nii nji nji nij⟩
      · intro m hm hne om hom
        obtain ⟨b1, ⟨om', b2, b3⟩, b4⟩ := hrc.1 m hm
        rw [hom] at b2
        injection b2 with e
        subst e
        have hdm : d m := b1.elim (fun e => absurd e hne) id
        have nmi : ¬ A anc m i := fun h => h1.not (hd m hdm i h)
        exact hg.recs m i j om oi oj hom ho hj b3 hqi hq nmi b4 nji nij

/-- an order that follows the edges -/
def Lin (l : List Oper) : (Nat → Prop) → List Nat → Prop
  | d, [] => ∀ i, ¬ Rdy l d i
  | d, j :: σ => Rdy l d j ∧ Lin l (add d j) σ

theorem plan_sound (hT : TyOk P tt) (hIO : IOk P I) (hI : IMono I) (hg : Good tt l anc) (hK : Forgets l K) {ops : Array Oper} (hl : ops.toList = l) : ∀ (σ : List Nat) (d : Nat → Prop) (p : Plan) (D : List (Nat × Value)) (s : St),
    Inv anc d → Lin l d σ → Valid tt l anc p [] d → planK tt I cx l K p D s → AHead P cx (.inRegion ops σ) K s
  | [], d, p, D, s, _, hs, hv, h => by
    cases p with
    | done => exact aops_nil h
    | quiet i p => exact (hs i hv.2.1).elim
    | alt j rc p rest => exact (hs j hv.1).elim
    | stop => exact absurd rfl hv.1
  | j :: σ, d, p, D, s, hd, hs, hv, h => by
    obtain ⟨hr, hs⟩ := hs
    obtain ⟨oj, hj, _⟩ := id hr
    have hj' : ops[j]? = some oj := by rw [← hl] at hj; simpa using hj
    have hd' := hd.add hg hr
    obtain ⟨t, dd, u, H⟩ := s
    -- the operation, then what is left of the plan
    have main : ∀ (p' : Plan), Valid tt l anc p' [] (add d j) → (opG tt I cx l oj K ⟨t, dd, u, H⟩ fun s1 => ∃ D', planK tt I cx l K p' D' s1) → AHead P cx (.inRegion ops (j :: σ)) K ⟨t, dd, u, H⟩ := by
      intro p' hv' h'
      unfold opG at h'
      rw [← hl] at h'
      refine aops_cons hT hIO hj' h' (fun v s' hk => ?_) (fun hk => ?_)
      · rw [putSt_eq] at hk
        obtain ⟨D', hk⟩ := hk
        rw [hl] at hk
        exact plan_sound hT hIO hI hg hK hl σ (add d j) p' D' _ hd' hs hv' hk
      · rw [putSt_eq] at hk
        obtain ⟨D', hk⟩ := hk
        rw [hl] at hk
        exact plan_sound hT hIO hI hg hK hl σ (add d j) p' D' _ hd' hs hv' hk
    cases hq : quietOp tt oj.op with
    | true =>
      obtain ⟨p', hv', hp'⟩ := bubble_quiet (tt := tt) (I := I) (cx := cx) (K := K) hI hg hj hq p d [] hd hr hv (.inl rfl)
      refine main p' hv' ?_
      obtain ⟨v, g1, g2⟩ := qvK_elim (hp' _ _ h)
      rw [putSt_mk] at g1
      exact opG_quiet hq g2 ⟨_, g1⟩
    | false =>
      obtain ⟨rc, p', _, hv', hp'⟩ := bubble_bar (tt := tt) (cx := cx) hI hg hK hj hq p d [] hd hr hv (.inl rfl)
      refine main p' hv' (opG_agree hI (hp' _ _ h) (fun _ _ => rfl) (fun _ _ _ _ h => h) fun v d u H hk => ?_)
      rw [recheckK_iff] at hk
      exact ⟨_, hk.1⟩

theorem lin_of_linearise {ops : Array Oper} (hl : ops.toList = l) : ∀ (fuel t : Nat) (listed : Array Bool), listed.size = ops.size → (listed.toList.countP (!·)) ≤ fuel →
    Lin l (fun i => listed.getD i false = true) (Region.linearise.go .any ops fuel t listed [])
  | fuel, t, listed, hs, hf => by
    have hrdy : ∀ i, Rdy l (fun i => listed.getD i false = true) i ↔ i ∈ Region.ready .any ops listed := by
      intro i
      unfold Rdy Region.ready aftersB
      simp only [List.mem_filter, List.mem_range, Bool.and_eq_true, Bool.not_eq_true']
      have hget : l[i]? = ops[i]? := by rw [← hl]; simp
      rw [hget]
      constructor
      · rintro ⟨o, ho, h1, h2⟩
        have hi : i < ops.size := (Array.getElem?_eq_some_iff.1 ho).1
        refine ⟨hi, ?_, ?_⟩
        · simp only [Array.getD_eq_getD_getElem?, Array.getElem?_eq_getElem (hs ▸ hi), Option.getD_some] at h1 ⊢
          simpa using h1
        · rw [ho]
          simp only [Option.map_some, Option.getD_some, Array.all_eq_true', Bool.or_eq_true, Bool.not_eq_true']
          intro e he
          cases hb : Region.binds .any e with
          | false => exact .inl rfl
          | true => exact .inr (h2 e.on (by simp; exact ⟨e, ⟨he, hb⟩, rfl⟩))
      · rintro ⟨hi, h1, h2⟩
        rw [Array.getElem?_eq_getElem hi] at h2 ⊢
        refine ⟨_, rfl, ?_, ?_⟩
        · simp only [Array.getD_eq_getD_getElem?, Array.getElem?_eq_getElem (hs ▸ hi), Option.getD_some] at h1 ⊢
          simpa using h1
        · simp only [Option.map_some, Option.getD_some, Array.all_eq_true', Bool.or_eq_true, Bool.not_eq_true'] at h2
          intro x hx
          simp only [List.mem_map, List.mem_filter] at hx
          obtain ⟨e, ⟨he, hb⟩, rfl⟩ := hx
          rcases h2 e (by simpa using he) with h | h
          · rw [hb] at h; exact absurd h (by simp)
          · exact h
    cases fuel with
    | zero =>
      simp only [Region.linearise.go, List.reverse_nil, Lin]
      intro i hi
      obtain ⟨o, ho, h1, _⟩ := hi
      have hi : i < listed.size := by rw [hs]; have := (List.getElem?_eq_some_iff.1 ho).1; rw [← hl] at this; simpa using this
      have h0 : listed.toList.countP (!·) = 0 := Nat.le_zero.1 hf
      rw [List.countP_eq_zero] at h0
      have := h0 listed[i] (by simp)
      simp only [Array.getD_eq_getD_getElem?, Array.getElem?_eq_getElem hi, Option.getD_some] at h1
      simp at this
      exact h1 this
    | succ fuel =>
      simp only [Region.linearise.go]
      change Lin l _ (match (Region.ready .any ops listed)[t % (Region.ready .any ops listed).length]? with
        | some i => Region.linearise.go .any ops fuel (t / (Region.ready .any ops listed).length) (listed.setIfInBounds i true) [i]
        | none => [].reverse)
      cases hi : (Region.ready .any ops listed)[t % (Region.ready .any ops listed).length]? with
      | none =>
        have hnil : Region.ready .any ops listed = [] := by
          cases hr : Region.ready .any ops listed with
          | nil => rfl
          | cons x xs =>
            rw [hr] at hi
            have hlt : t % (x :: xs).length < (x :: xs).length := Nat.mod_lt _ (by simp)
            simp at hi
            simp at hlt
            omega
        intro i h
        rw [hrdy, hnil] at h
        exact absurd h (by simp)
      | some i =>
        simp only []
        rw [linearise_go_acc, List.reverse_singleton, List.singleton_append]
        have hm := (hrdy i).2 (List.mem_of_getElem? hi)
        refine ⟨hm, ?_⟩
        obtain ⟨o, ho, h1, _⟩ := hm
        have hi : i < listed.size := by rw [hs]; have := (List.getElem?_eq_some_iff.1 ho).1; rw [← hl] at this; simpa using this
        have hset : (fun x => (listed.setIfInBounds i true).getD x false = true) = add (fun x => listed.getD x false = true) i := by
          funext x
          simp only [add, Array.getD_eq_getD_getElem?]
          by_cases hx : x = i
          · subst hx; simp [hi]
          · rw [Array.getElem?_setIfInBounds_ne (Ne.symm hx)]; simp [hx]
        rw [← hset]
        refine lin_of_linearise hl fuel _ _ (by simp [hs]) ?_
        have hb : listed[i] = false := by
          simp only [Array.getD_eq_getD_getElem?, Array.getElem?_eq_getElem hi, Option.getD_some] at h1
          simpa using h1
        have hc : (listed.setIfInBounds i true).toList.countP (!·) + 1 ≤ listed.toList.countP (!·) := by
          rw [Array.toList_setIfInBounds]
          have hi' : i < listed.toList.length := by simpa using hi
          have hb' : listed.toList[i] = false := by simpa using hb
          rw [List.countP_set hi', hb']
          have h0 : 0 < listed.toList.countP (!·) := List.countP_pos_iff.2 ⟨false, by rw [← hb']; exact List.getElem_mem hi', rfl⟩
          generalize listed.toList.countP (!·) = n at h0 ⊢
          simp
          omega
        generalize listed.toList.countP (!·) = n at hc hf
        generalize (listed.setIfInBounds i true).toList.countP (!·) = m at hc ⊢
        omega

theorem clear_put {o : Oper} {v : Value} : ∀ {l : List Oper} {t : List Value} {i : Nat}, l[i]? = some o → clearT l (putT t o.dst v) = clearT l t
  | [], _, i, h => by simp at h
  | x :: xs, t, 0, h => by
    simp at h
    subst h
    simp only [clearT, List.foldl_cons]
    cases x.dst with
    | none => rfl
    | some d => simp [putT]
  | x :: xs, t, i + 1, h => by
    have h' : xs[i]? = some o := by simpa using h
    have ih := fun t => clear_put (v := v) (l := xs) (t := t) h'
    simp only [clearT, List.foldl_cons] at ih ⊢
    cases hx : x.dst with
    | none => exact ih t
    | some d =>
      simp only
      cases ho : o.dst with
      | none => rfl
      | some e =>
        rw [ho] at ih
        by_cases hde : d = e
        · subst hde; simp [putT]
        · have := ih (t.set d undef)
          simp only [putT] at this ⊢
          rw [← this, List.set_comm _ _ hde]
theorem clear_weak : ∀ (l : List Oper) (t : List Value), (clearT l t).length = t.length ∧ ∀ i, (clearT l t).getD i undef = t.getD i undef ∨ (clearT l t).getD i undef = undef
  | [], t => ⟨rfl, fun _ => .inl rfl⟩
  | x :: xs, t => by
    simp only [clearT, List.foldl_cons]
    cases x.dst with
    | none => exact clear_weak xs t
    | some d =>
      obtain ⟨h1, h2⟩ := clear_weak xs (t.set d undef)
      simp only [clearT] at h1 h2
      refine ⟨by rw [h1]; simp, fun i => ?_⟩
      rcases h2 i with h | h
      · by_cases hdi : d = i
        · subst hdi
          refine .inr (h.trans ?_)
          simp only [List.getD, List.getElem?_set]
          by_cases hlt : d < t.length <;> simp [hlt]
        · rw [getD_set_ne hdi] at h; exact .inl h
      · exact .inr h

/-- a region whose order is drawn -/
theorem awp_draw (hm : P.follows .mixedOrders = true) (hT : TyOk P tt) (hIO : IOk P I) (hI : IMono I) {ops : Array Oper} {id : Nat} {p : Plan} (hok : planOk tt ops.toList anc p = true) {s : St}
    (h : planK tt I cx ops.toList (forgetE ops.toList K) p [] s) : AWp P cx (.region id ops true) K s := by
  simp only [planOk, Bool.and_eq_true] at hok
  obtain ⟨⟨⟨h1, h2⟩, h3⟩, h4⟩ := hok
  have hg := good_of h1 h2 h3
  have hv := validB_spec p [] [] h4
  intro w0 E b k cs0 c hc hr
  have hlin := lin_of_linearise (l := ops.toList) (ops := ops) rfl ops.size (c.w.tape c.w.drawn (.order b.fn id)) (Array.replicate ops.size false) (by simp) (by simp [List.countP_replicate])
  have hd : (fun i => (Array.replicate ops.size false).getD i false = true) = (fun x : Nat => x ∈ ([] : List Nat)) := by
    funext i
    simp only [Array.getD_eq_getD_getElem?, Array.getElem?_replicate]
    by_cases hi : i < ops.size <;> simp [hi]
  rw [hd] at hlin
  have hF : Forgets ops.toList (forgetE ops.toList K) := by
    intro o i v ch t d u H ho hp
    simp only [forgetE] at hp ⊢
    rw [clear_put (i := i) ho] at hp
    exact hp
  have hA := plan_sound (cx := cx) hT hIO hI hg hF (ops := ops) rfl _ _ p [] s (by intro j hj; exact absurd hj (by simp)) hlin hv h
  have hst : step P (lone (fatF b c.t c.d (.code (.region id ops true) :: k)) c.cs c.w) =
      .next (lone (fatF b c.t c.d (.inRegion ops (Region.linearise.go .any ops ops.size (c.w.tape c.w.drawn (.order b.fn id)) (Array.replicate ops.size false) []) :: k)) c.cs { c.w with drawn := c.w.drawn + 1 }) := by
    refine step_lone_go ?_
    simp [stepG, stepG.exec, fatF, choose, Sem.run, Question.forced, Question.cut, Region.schedule, hm, Region.linearise]
  obtain ⟨x, s1, E1, c1, k1, k2, k3, k4⟩ := hA w0 E b k cs0 ⟨c.t, c.d, c.cs, { c.w with drawn := c.w.drawn + 1 }⟩ hc ⟨hr.rel.drew _, hr.t, hr.d, hr.u⟩
  have k4 := k4.of_steps (.one hst)
  cases x with
  | panic ch =>
    obtain ⟨t, d, u, H⟩ := s1
    simp only [forgetE] at k1
    obtain ⟨w1, w2⟩ := clear_weak ops.toList t
    exact ⟨.panic ch, _, E1, c1, k1, k2, k3.weak ⟨w1, w2, rfl, rfl, rfl, fun _ _ h => h⟩, k4⟩
  | normal => exact ⟨_, s1, E1, c1, k1, k2, k3, k4⟩
  | exit id => exact ⟨_, s1, E1, c1, k1, k2, k3, k4⟩
  | ret => exact ⟨_, s1, E1, c1, k1, k2, k3, k4⟩
end

theorem callS_imono (P : Program) : IMono (SI P) where
  call fv args H K K' h hk := callS_mono h hk
  inv rv m args H K K' h hk := by
    show invS P rv m args H K'
    have h : invS P rv m args H K := h
    unfold invS at *
    intro w0 E w rv' args' h1 h2 h3 c0 cs w00 c S h4 h5
    obtain ⟨e, H', E', w', a, r⟩ := h w0 E w rv' args' h1 h2 h3 c0 cs w00 c S h4 h5
    exact ⟨e, H', E', w', hk _ _ a, r⟩
theorem drawS_plan {P : Program} {tt : Tab} {cx : Cx} (hm : P.follows .mixedOrders = true) (hT : TyOk P tt) {ops : Array Oper} (anc : List (List Nat)) (p : Plan) (hok : planOk tt ops.toList anc p = true) {K : EK} {s : St}
    (h : planK tt (SI P) cx ops.toList (forgetE ops.toList K) p [] s) : drawS P cx ops K s := by
  unfold drawS
  exact fun id => awp_draw hm hT (si_ok P) (callS_imono P) hok h
end Go.Abs
