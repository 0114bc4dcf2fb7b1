/- Plans by program; closed runs by evaluation; what a call forgets. -/
import Derived.Test.YtbmbabgkpcnppaaAbsDraw3
set_option linter.all false
namespace Go.Abs
open Go

def ancRow (l : List Oper) (rows : List (List Nat)) (o : Oper) : List Nat :=
  (aftersB o).foldl (fun acc e => ((e :: rows.getD e []).foldl (fun acc x => bif acc.contains x then acc else x :: acc) acc)) []
def ancOf (l : List Oper) : List (List Nat) := l.foldl (fun rows o => rows ++ [ancRow l rows o]) []
def quietAt (tt : Tab) (l : List Oper) (i : Nat) : Bool := match l[i]? with | some o => quietOp tt o.op | none => false
def rcOf (tt : Tab) (l : List Oper) (anc : List (List Nat)) (d : List Nat) (j : Nat) : List Nat :=
  d.filter fun m => (match l[m]? with | some o => loadish tt o | none => false) && !(anc.getD j []).contains m
def mkPlan (tt : Tab) (l : List Oper) (anc : List (List Nat)) : Nat → List Nat → Plan
  | 0, _ => .done
  | n + 1, d => match (List.range l.length).filter (rdyB l d) with
    | [] => .done
    | ready => match ready.find? (quietAt tt l) with
      | some i => .quiet i (mkPlan tt l anc n (i :: d))
      | none => ready.foldr (fun j rest => .alt j (rcOf tt l anc d j) (mkPlan tt l anc n (j :: d)) rest) .stop
def planOf (tt : Tab) (l : List Oper) : Plan := mkPlan tt l (ancOf l) (l.length + 1) []

/-! what is forgotten at a panic, in a form that computes fast -/
def hasDst (l : List Oper) (i : Nat) : Bool := l.any fun o => match o.dst with | some d => Nat.beq d i | none => false
abbrev clearK (l : List Oper) : List Value → Nat → (List Value → Prop) → Prop
  | [], _, q => q []
  | v :: t, i, q => (match hasDst l i with
    | true => clearK l t (i + 1) fun t' => q (undef :: t')
    | false => clearK l t (i + 1) fun t' => q (v :: t'))
def clearL (l : List Oper) : List Value → Nat → List Value
  | [], _ => []
  | v :: t, i => (match hasDst l i with | true => undef | false => v) :: clearL l t (i + 1)
theorem clearK_eq (l : List Oper) : ∀ (t : List Value) (i : Nat) (q : List Value → Prop), clearK l t i q = q (clearL l t i)
  | [], _, _ => rfl
  | v :: t, i, q => by
    simp only [clearK, clearL]
    cases hasDst l i <;> simp only [clearK_eq l t]
theorem clearL_get (l : List Oper) : ∀ (t : List Value) (i j : Nat), (clearL l t i)[j]? = match hasDst l (i + j) with | true => t[j]?.map (fun _ => undef) | false => t[j]?
  | [], i, j => by cases hasDst l (i + j) <;> simp [clearL]
  | v :: t, i, 0 => by simp only [clearL, Nat.add_zero]; cases hasDst l i <;> simp
  | v :: t, i, j + 1 => by
    have := clearL_get l t (i + 1) j
    simp only [clearL, List.getElem?_cons_succ]
    rw [this, show i + 1 + j = i + (j + 1) by omega]
theorem clearT_get : ∀ (l : List Oper) (t : List Value) (j : Nat), (clearT l t)[j]? = match hasDst l j with | true => t[j]?.map (fun _ => undef) | false => t[j]?
  | [], t, j => by simp [clearT, hasDst]
  | o :: l, t, j => by
    have ih := fun t => clearT_get l t j
    simp only [clearT] at ih
    simp only [clearT, List.foldl_cons]
    cases hd : o.dst with
    | none =>
      have e : hasDst (o :: l) j = hasDst l j := by simp [hasDst, hd]
      rw [e]
      exact ih t
    | some d =>
      have e : hasDst (o :: l) j = (Nat.beq d j || hasDst l j) := by simp [hasDst, hd]
      rw [e]
      simp only
      rw [ih, List.getElem?_set]
      by_cases hdj : d = j
      · subst hdj
        rw [show Nat.beq d d = true by simp]
        simp only [Bool.true_or, if_pos]
        by_cases hlt : d < t.length
        · cases hasDst l d <;> simp [hlt]
        · cases hasDst l d <;> simp [hlt]
      · have : Nat.beq d j = false := by
          cases h : Nat.beq d j with
          | false => rfl
          | true => exact absurd (Nat.eq_of_beq_eq_true h) hdj
        rw [this, Bool.false_or, if_neg hdj]
theorem clear_eq (l : List Oper) (t : List Value) : clearL l t 0 = clearT l t := by
  apply List.ext_getElem?
  intro j
  rw [clearL_get, clearT_get, Nat.zero_add]
abbrev forgetK (l : List Oper) (K : EK) : EK := fun e s =>
  match e with
  | .panic ch => (match s with | ⟨t, d, u, H⟩ => clearK l t 0 fun t' => K (.panic ch) ⟨t', d, u, H⟩)
  | e => K e s
theorem forget_eq (l : List Oper) (K : EK) : forgetK l K = forgetE l K := by
  funext e s
  obtain ⟨t, d, u, H⟩ := s
  cases e with
  | panic ch => simp only [forgetK, forgetE, clearK_eq, clear_eq]
  | _ => rfl
theorem drawS_auto {P : Program} {tt : Tab} {cx : Cx} (hm : P.follows .mixedOrders = true) (hT : TyOk P tt) {ops : Array Oper} (hok : planOk tt ops.toList (ancOf ops.toList) (planOf tt ops.toList) = true) {K : EK} {s : St}
    (h : planK tt (SI P) cx ops.toList (forgetK ops.toList K) (planOf tt ops.toList) [] s) : drawS P cx ops K s := drawS_plan hm hT _ _ hok (forget_eq ops.toList K ▸ h)

/-! closed runs -/
noncomputable def fuelDraw (tt : Tab) (I : Interp) (cx : Cx) (ops : Array Oper) (K : EK) (s : St) : Prop :=
  match planOk tt ops.toList (ancOf ops.toList) (planOf tt ops.toList) with
  | true => planK tt I cx ops.toList (forgetE ops.toList K) (planOf tt ops.toList) [] s
  | false => False
mutual
noncomputable def fuelI (P : Program) (tt : Tab) : Nat → Interp
  | 0 => ⟨fun _ _ _ _ => False, fun _ _ _ _ _ => False, fun _ _ _ _ => False, fun _ _ _ _ => False⟩
  | n + 1 => {
    call := fun fv args H K => match fv with
      | .func (.func f) first cap => (match P.funcs[f]? with
        | some fn => (match fn.body with
          | some c => (match hasBody P f with
            | true => den tt (fuelI P tt n) ⟨false, none, f⟩ c (bodyK tt (fuelD P tt n) fn.results.toList fun e _ H' => K e H')
                ⟨(first.toList ++ args ++ cap.toList) ++ List.replicate (fn.ntmps - (first.toList ++ args ++ cap.toList).length) undef, [], .run, H⟩
            | false => False)
          | none => False)
        | none => False)
      | .func (.yield l) ⟨[]⟩ ⟨[]⟩ => roundK tt (fuelI P tt n) (hasBody P) l args H K
      | _ => False
    inv := fun rv m args H K => match rv with
      | .iface t v => (match methodFn P t m with
        | some f => (fuelI P tt n).call (.func (.func f) #[] #[]) (v :: args) H K
        | none => False)
      | _ => False
    loop := fun cx c K s => den tt (fuelI P tt n) cx c (fun e s' => match e with | .normal => (fuelI P tt n).loop cx c K s' | e => K e s') s
    draw := fun cx ops K s => fuelDraw tt (fuelI P tt n) cx ops K s }
noncomputable def fuelD (P : Program) (tt : Tab) : Nat → DCall
  | 0 => fun _ _ _ _ _ => False
  | n + 1 => fun g args u H K => match P.funcs[g]? with
    | some fn => (match fn.body with
      | some c => (match hasBody P g with
        | true => den tt (fuelI P tt n) ⟨true, none, g⟩ c (bodyK tt (fuelD P tt n) fn.results.toList K) ⟨args ++ List.replicate (fn.ntmps - args.length) undef, [], u, H⟩
        | false => False)
      | none => False)
    | none => False
end


structure ISub (I I' : Interp) : Prop where
  call : ∀ fv args H K K', I.call fv args H K → (∀ e H, K e H → K' e H) → I'.call fv args H K'
  inv : ∀ rv m args H K K', I.inv rv m args H K → (∀ e H, K e H → K' e H) → I'.inv rv m args H K'
  loop : ∀ cx c K K' s, I.loop cx c K s → (∀ e s, K e s → K' e s) → I'.loop cx c K' s
  draw : ∀ cx ops K K' s, I.draw cx ops K s → (∀ e s, K e s → K' e s) → I'.draw cx ops K' s
def DSub (d d' : DCall) : Prop := ∀ g args u H K K', d g args u H K → (∀ e u H, K e u H → K' e u H) → d' g args u H K'

section
variable {P : Program} {tt : Tab} {I I' : Interp} {cx : Cx}
theorem getK_mono {t : List Value} {i : Nat} {k k' : Value → Prop} (h : getK t i k) (hk : ∀ v, k v → k' v) : getK t i k' := by rw [getK_eq] at *; exact hk _ h
theorem Det.mono {α : Type} {F : (α → Prop) → Prop} (hF : Det F) {k k' : α → Prop} (h : F k) (hk : ∀ v, k v → k' v) : F k' := let ⟨v, h1, h2⟩ := hF k h; h2 k' (hk v h1)
theorem opK_sub (hI : ISub I I') {op : Op} {s : St} {K K' : EK} {k k' : Value → St → Prop} (h : opK tt I cx op K s k) (hK : ∀ e s, K e s → K' e s) (hk : ∀ v s, k v s → k' v s) : opK tt I' cx op K' s k' := by
  obtain ⟨t, d, u, H⟩ := s
  have prim : primK tt op t H (fun v H' => k v ⟨t, d, u, H'⟩) → primK tt op t H (fun v H' => k' v ⟨t, d, u, H'⟩) := fun h => primK_mono h fun v H' hv => hk _ _ hv
  have hend : ∀ e H', endK ⟨t, d, u, H⟩ K k e H' → endK ⟨t, d, u, H⟩ K' k' e H' := by
    intro e H' he
    cases e with
    | returned v => exact hk _ _ he
    | panicked ch => exact hK _ _ he
  unfold opK at *
  dsimp only at *
  cases op <;> dsimp only at * <;> first
    | exact prim h
    | skip
  case call c =>
    obtain ⟨callee, args, argTypes⟩ := c
    cases callee with
    | value f => exact (det_evalK f).mono h fun fv h1 => (det_evalsK _).mono h1 fun vs h2 => hI.call _ _ _ _ _ h2 hend
    | invoke r m => exact (det_evalK r).mono h fun fv h1 => (det_evalsK _).mono h1 fun vs h2 => hI.inv _ _ _ _ _ _ h2 hend
    | builtin b =>
      cases b <;> first | exact prim h | skip
      case recover =>
        dsimp only at *
        unfold recoverK at *
        split at h
        · exact h.elim
        · split at h
          · exact hk _ _ h
          · dsimp only at *
            split at h
            · exact hk _ _ h
            · exact hk _ _ h
            · exact hk _ _ h
            · exact h.elim
  case defer c =>
    obtain ⟨callee, args, argTypes⟩ := c
    split at h
    · exact h.elim
    · cases callee with
      | value f =>
        refine (det_evalK f).mono h fun fv h1 => (det_evalsK _).mono h1 fun vs h2 => ?_
        split at h2
        · exact hk _ _ h2
        · exact h2.elim
      | invoke r m => exact h.elim
      | builtin b => exact h.elim
  case panic x =>
    refine (det_evalK x).mono h fun v h1 => ?_
    split at h1
    · exact hK _ _ h1
    · exact h1.elim
theorem opG_sub (hI : ISub I I') {l : List Oper} {o : Oper} {s : St} {K K' : EK} {k k' : St → Prop} (h : opG tt I cx l o K s k) (hK : ∀ e s, K e s → K' e s) (hk : ∀ s, k s → k' s) : opG tt I' cx l o K' s k' := by
  unfold opG at *
  rcases guardK_cases h with ⟨h1, h2⟩ | ⟨h1, h2⟩
  · exact h2 _ _ (opK_sub hI h1 hK fun v s hv => by rw [putSt_eq] at *; exact hk _ hv)
  · exact h2 _ _ (by rw [putSt_eq] at *; exact hk _ h1)
theorem opsK_sub (hI : ISub I I') {l : List Oper} {K K' : EK} (hK : ∀ e s, K e s → K' e s) : ∀ (os : List Oper) (s : St), opsK tt I cx l os K s → opsK tt I' cx l os K' s
  | [], s, h => hK _ _ h
  | o :: os, s, h => opG_sub (l := l) (o := o) hI (k := fun s'' => opsK tt I cx l os K s'') h hK fun s h => opsK_sub hI hK os s h
theorem planK_sub (hI : ISub I I') {l : List Oper} {K K' : EK} (hK : ∀ e s, K e s → K' e s) : ∀ (p : Plan) (D : List (Nat × Value)) (s : St), planK tt I cx l K p D s → planK tt I' cx l K' p D s
  | .done, _, _, h => hK _ _ h
  | .stop, _, _, _ => trivial
  | .quiet i p, D, s, h => by
    obtain ⟨t, d, u, H⟩ := s
    simp only [planK_quiet, planK_alt] at *
    obtain ⟨o, ho, h1⟩ := nthK_elim h
    obtain ⟨v, h2, h3⟩ := qvK_elim h1
    refine nthK_of ho (h3 _ _ _ ?_)
    rw [putSt_mk] at *
    exact planK_sub hI hK p _ _ h2
  | .alt j rc p rest, D, s, h => by
    obtain ⟨t, d, u, H⟩ := s
    simp only [planK_quiet, planK_alt] at *
    rw [altK_iff] at *
    refine ⟨?_, h.2.imp id fun h => planK_sub hI hK rest _ _ h⟩
    obtain ⟨o, ho, h1⟩ := nthK_elim h.1
    refine nthK_of ho (opG_sub hI h1 hK fun s hs => ?_)
    obtain ⟨t, d, u, H⟩ := s
    rw [recheckK_iff] at *
    exact ⟨planK_sub hI hK p _ _ hs.1, hs.2⟩
theorem condK_mono {b : Bool} {p q p' q' : Prop} (h : condK b p q) (h1 : p → p') (h2 : q → q') : condK b p' q' := by
  rcases condK_elim h with ⟨hb, h⟩ | ⟨hb, h⟩
  · exact condK_true hb (h1 h)
  · exact condK_false hb (h2 h)
theorem endLoopK_sub {l : Nat} {K K' : EK} {s : St} (hK : ∀ e s, K e s → K' e s) (h : endLoopK l K s) : endLoopK l K' s := by
  unfold endLoopK at *
  obtain ⟨t, d, u, H⟩ := s
  refine heapK_mono h fun o h => ?_
  split at h
  · rename_i r
    split at h
    · exact h.elim
    · have hj : jumpK r.pending K ⟨t, d, u, H.kill l⟩ → jumpK r.pending K' ⟨t, d, u, H.kill l⟩ := by
        intro h
        unfold jumpK at *
        split at h <;> first | exact hK _ _ h | exact h.elim
      exact hj h
  · exact h.elim
theorem okK_of {d : TD} {p : Prop} (hd : d ≠ .other) (h : p) : okK d p := by
  unfold okK
  cases d <;> first | exact h | exact absurd rfl hd
theorem rangeK_sub (hI : ISub I I') {fv : Value} {ps : Array Tmp} {a b : Code} {K K' : EK} {s : St} (hK : ∀ e s, K e s → K' e s) (h : rangeK I cx fv ps a b K s) : rangeK I' cx fv ps a b K' s := by
  obtain ⟨t, d, u, H⟩ := s
  unfold rangeK at *
  dsimp only at *
  split at h
  · refine hI.call _ _ _ _ _ h fun e H' he => ?_
    cases e with
    | returned v => exact endLoopK_sub (s := ⟨t, { target := .collected H.size, args := #[] } :: d, u, H'⟩) hK he
    | panicked ch => exact hK _ _ he
  · refine heapK_mono h fun o h => ?_
    split at h
    · refine hI.call _ _ _ _ _ h fun e H' he => ?_
      cases e with
      | returned v => exact endLoopK_sub (s := ⟨t, d, u, H'⟩) hK he
      | panicked ch => exact hK _ _ he
    · exact h.elim
theorem den_sub (hI : ISub I I') : ∀ (c : Code) {K K' : EK} {s : St}, den tt I cx c K s → (∀ e s, K e s → K' e s) → den tt I' cx c K' s
  | .skip, _, _, _, h, hK => hK _ _ h
  | .label _, _, _, _, h, hK => hK _ _ h
  | .region _ ops false, _, _, s, h, hK => opsK_sub hI hK _ s h
  | .region _ ops true, _, _, _, h, hK => hI.draw _ _ _ _ _ h hK
  | .seq a b, _, _, _, h, hK => den_sub hI a h fun e s' he => by
      cases e with
      | normal => exact den_sub hI b he hK
      | _ => exact hK _ _ he
  | .cond c x y, _, _, _, h, hK => (det_evalK c).mono h fun v hv => by
      cases v <;> first
        | exact hv.elim
        | exact condK_mono hv (fun h => den_sub hI x h hK) (fun h => den_sub hI y h hK)
  | .block id c, _, _, _, h, hK => den_sub hI c h fun e s' he => by
      cases e with
      | exit id' => cases hb : Nat.beq id' id <;> simp only [hb] at he ⊢ <;> exact hK _ _ he
      | _ => exact hK _ _ he
  | .loop c, _, _, _, h, hK => hI.loop _ _ _ _ _ h hK
  | .rangeFunc f ps a b, _, _, _, h, hK => (det_evalK f).mono h fun fv hv => rangeK_sub hI hK hv
  | .exit _, _, _, _, h, hK => hK _ _ h
  | .scope c, _, _, _, h, hK => den_sub hI c h hK
  | .goto _, _, _, _, h, _ => h.elim
  | .ret, _, _, _, h, hK => hK _ _ h
  | .refuse _, _, _, _, h, _ => h.elim
theorem resK_mono {t : List Value} {H : AHeap} : ∀ {rs : List ResultVar} {k k' : List Value → Prop}, resK tt t H rs k → (∀ vs, k vs → k' vs) → resK tt t H rs k'
  | [], _, _, h, hk => hk _ h
  | .tmp i :: rs, _, _, h, hk => getK_mono h fun v hv => resK_mono hv fun vs h => hk _ h
  | .cell a ty :: rs, _, _, h, hk => getK_mono h fun v hv => by
      split at hv
      · refine (det_tyK tt ty).mono hv fun te h1 => ?_
        have h2 := okK_elim h1
        refine okK_of h2.1 ((det_readK te _ _).mono h2.2 fun u hu => resK_mono hu fun vs h => hk _ h)
      · exact hv.elim
theorem valK_mono {vs : List Value} {k k' : Value → Prop} (h : valK vs k) (hk : ∀ v, k v → k' v) : valK vs k' := by
  unfold valK at *
  split at h <;> exact hk _ h
theorem notRun_mono {u : FrameMode} {p q : Prop} (h : notRun u p) (hpq : p → q) : notRun u q := by cases u <;> first | exact h | exact hpq h
theorem leaveK_sub {dc dc' : DCall} (hd : DSub dc dc') {rs : List ResultVar} {t : List Value} : ∀ (ds : List Deferred) (u : FrameMode) (H : AHeap) (K K' : CK), leaveK tt dc rs t ds u H K → (∀ e H, K e H → K' e H) → leaveK tt dc' rs t ds u H K'
  | [], .returning, H, K, K', h, hK => resK_mono (tt := tt) h fun vs hv => valK_mono hv fun v hv => hK _ _ hv
  | [], .panicking ch, H, K, K', h, hK => hK _ _ h
  | [], .run, _, _, _, h, _ => h.elim
  | d :: ds, u, H, K, K', h, hK => by
    simp only [leaveK_cons] at *
    refine notRun_mono h fun h => ?_
    split at h
    · refine hd _ _ _ _ _ _ h fun e u' H' he => ?_
      split at he <;> exact leaveK_sub hd ds _ _ K K' he hK
    · refine heapK_mono h fun o h => ?_
      split at h
      · exact leaveK_sub hd ds _ _ K K' h hK
      · exact h.elim
    · exact h.elim
theorem bodyK_sub {dc dc' : DCall} (hd : DSub dc dc') {rs : List ResultVar} {K K' : AEnd → FrameMode → AHeap → Prop} (hK : ∀ e u H, K e u H → K' e u H) : ∀ e s, bodyK tt dc rs K e s → bodyK tt dc' rs K' e s := by
  intro e s h
  obtain ⟨t, d, u, H⟩ := s
  cases e with
  | normal => exact leaveK_sub hd d _ _ _ _ h fun e H he => hK _ _ _ he
  | ret => exact leaveK_sub hd d _ _ _ _ h fun e H he => hK _ _ _ he
  | panic ch => exact leaveK_sub hd d _ _ _ _ h fun e H he => hK _ _ _ he
  | exit id => exact h.elim
theorem endRoundK_sub {l : Nat} {j : Option Code} {s : St} {K K' : CK} (hK : ∀ e H, K e H → K' e H) (h : endRoundK l j s K) : endRoundK l j s K' := by
  unfold endRoundK at *
  obtain ⟨t, d, u, H⟩ := s
  refine heapK_mono h fun o h => ?_
  split at h
  · cases j <;> exact hK _ _ h
  · exact h.elim
theorem roundEnd_sub {l : Nat} {K K' : CK} (hK : ∀ e H, K e H → K' e H) : ∀ e s, roundEnd l K e s → roundEnd l K' e s := by
  intro e s h
  cases e with
  | panic ch =>
    simp only [roundEnd] at *
    split at h
    · exact hK _ _ h
    · exact h.elim
  | normal => exact endRoundK_sub (j := none) hK h
  | ret => exact endRoundK_sub (j := some .ret) hK h
  | exit id => exact endRoundK_sub (j := some (.exit id)) hK h
theorem roundK_sub (hI : ISub I I') {hb : FuncId → Bool} {l : Nat} {args : List Value} {H : AHeap} {K K' : CK} (hK : ∀ e H, K e H → K' e H) (h : roundK tt I hb l args H K) : roundK tt I' hb l args H K' := by
  unfold roundK at *
  refine heapK_mono h fun o h => ?_
  split at h
  · rename_i r
    split at h
    · have hs : ∀ (ps : List (Tmp × Value)) (t : List Value) (k k' : List Value → Prop), setsK t ps k → (∀ t, k t → k' t) → setsK t ps k' := by
        intro ps
        induction ps with
        | nil => intro t k k' h hk; exact hk _ h
        | cons p ps ih => intro t k k' h hk; obtain ⟨i, v⟩ := p; simp only [setsK, setK_eq] at *; exact ih _ _ _ h hk
      refine hs _ _ _ _ h fun t ht => den_sub hI r.assign ht fun e s he => ?_
      cases e with
      | normal =>
        simp only [beginK] at *
        refine heapK_mono he fun o he => ?_
        split at he
        · split at he
          · exact den_sub hI r.body he (roundEnd_sub hK)
          · exact he.elim
        · exact he.elim
      | panic ch =>
        simp only at *
        split at he
        · exact hK _ _ he
        · exact he.elim
      | exit id => exact he.elim
      | ret => exact he.elim
    · exact h.elim
  · exact h.elim

theorem si_sub : ISub (SI P) (SI P) where
  call fv args H K K' h hk := callS_mono h hk
  inv := (callS_imono P).inv
  loop cx c K K' s h hk := by
    have h : loopS P cx c K s := h
    show loopS P cx c K' s
    unfold loopS at *
    exact ⟨h.1.mono hk, h.2.mono hk⟩
  draw cx ops K K' s h hk := by
    have h : drawS P cx ops K s := h
    show drawS P cx ops K' s
    unfold drawS at *
    exact fun id => (h id).mono hk
/-- evaluation says what calls mean -/
theorem fuel_sound (hm : P.follows .mixedOrders = true) (hT : TyOk P tt) : ∀ n, ISub (fuelI P tt n) (SI P) ∧ DSub (fuelD P tt n) (defS P)
  | 0 => ⟨⟨fun _ _ _ _ _ h => h.elim, fun _ _ _ _ _ _ h => h.elim, fun _ _ _ _ _ h => h.elim, fun _ _ _ _ _ h => h.elim⟩, fun _ _ _ _ _ _ h => h.elim⟩
  | n + 1 => by
    obtain ⟨ih1, ih2⟩ := fuel_sound hm hT n
    refine ⟨⟨fun fv args H K K' h hk => ?_, fun rv m args H K K' h hk => ?_, fun cx c K K' s h hk => ?_, fun cx ops K K' s h hk => ?_⟩, fun g args u H K K' h hk => ?_⟩
    · simp only [fuelI] at h
      show callS P fv args H K'
      split at h
      · split at h
        · rename_i fn hfn
          split at h
          · rename_i c hc
            split at h
            · rename_i hb
              exact callS_walk hT hfn hc hb (den_sub ih1 c h (bodyK_sub ih2 fun e _ H he => hk _ _ he))
            · exact h.elim
          · exact h.elim
        · exact h.elim
      · exact callS_round hT (roundK_sub ih1 hk h)
      · exact h.elim
    · simp only [fuelI] at h
      show invS P rv m args H K'
      split at h
      · split at h
        · rename_i f hf
          exact invS_of hf (ih1.call _ _ _ _ _ h hk)
        · exact h.elim
      · exact h.elim
    · simp only [fuelI] at h
      show loopS P cx c K' s
      refine loopS_round hT (den_sub ih1 c h fun e s he => ?_)
      cases e with
      | normal => exact ih1.loop _ _ _ _ _ he hk
      | _ => exact hk _ _ he
    · simp only [fuelI] at h
      show drawS P cx ops K' s
      unfold fuelDraw at h
      split at h
      · rename_i hok
        refine drawS_plan hm hT _ _ hok (planK_sub ih1 (fun e s he => ?_) _ _ _ h)
        cases e with
        | panic ch => obtain ⟨t, d, u, H⟩ := s; exact hk _ _ he
        | _ => exact hk _ _ he
      · exact h.elim
    · simp only [fuelD] at h
      split at h
      · rename_i fn hfn
        split at h
        · rename_i c hc
          split at h
          · rename_i hb
            exact defS_walk hT hfn hc hb (den_sub ih1 c h (bodyK_sub ih2 hk))
          · exact h.elim
        · exact h.elim
      · exact h.elim
end
end Go.Abs
