/- Operations in an order that is drawn: one order stands for all that differ in quiet operations. -/
import Derived.Test.YtbmbabgkpcnppaaAbsDet2
set_option linter.all false
namespace Go.Abs
open Go

inductive Plan where
  | done
  | quiet (i : Nat) (p : Plan)
  | alt (j : Nat) (rc : List Nat) (p rest : Plan)
  | stop

def looksL (l : List Oper) (o : Oper) : List Nat :=
  (o.op.operands.toList.filterMap fun | .tmp t => some t | _ => none) ++
  (match o.guard with
   | some (g, _) => (match l[g]? with | some og => og.dst.toList | none => [])
   | none => [])
def dstNot (d : Option Tmp) (xs : List Nat) : Bool := match d with | some d => !xs.contains d | none => true
def dstNe (d e : Option Tmp) : Bool := match d with | some d => (match e with | some e => !Nat.beq d e | none => true) | none => true

def qvK (tt : Tab) (l : List Oper) (o : Oper) (s : St) (k : Value → Prop) : Prop :=
  guardK l o s (primK tt o.op s.t s.H fun v _ => k v) (k skipV)
abbrev assocK : List (Nat × Value) → Nat → (Value → Prop) → Prop
  | [], _, _ => False
  | (i, v) :: D, m, k => (match Nat.beq i m with | true => k v | false => assocK D m k)
def addrSame (a b : Addr) : Bool := Nat.beq a.block b.block && Nat.beq a.off b.off && (match a.spot with | none => (match b.spot with | none => true | _ => false) | _ => false)
def baSame (a b : ByteArray) : Bool := a.data.toList == b.data.toList
def vSame1 : Value → Value → Bool
  | .pointer (some a), .pointer (some b) => addrSame a b
  | .slice (some a) n c, .slice (some b) m d => addrSame a b && Nat.beq n m && Nat.beq c d
  | .string a, .string b => baSame a b
  | .map (some a), .map (some b) => Nat.beq a b
  | a, b => sEq a b
def vSameL : List Value → List Value → Bool
  | [], [] => true
  | a :: as, b :: bs => vSame1 a b && vSameL as bs
  | _, _ => false
def vSame : Value → Value → Bool
  | .agg a, .agg b => vSameL a.toList b.toList
  | .complex .f32 0 1, .complex .f32 0 1 => true
  | .func (.func f) a b, .func (.func g) c d => Nat.beq f g && vSameL a.toList c.toList && vSameL b.toList d.toList
  | .iface t (.agg a), .iface u (.agg b) => Nat.beq t u && vSameL a.toList b.toList
  | a, b => vSame1 a b
theorem addrSame_eq {a b : Addr} (h : addrSame a b = true) : a = b := by
  obtain ⟨a1, a2, a3⟩ := a
  obtain ⟨b1, b2, b3⟩ := b
  simp only [addrSame, Bool.and_eq_true] at h
  obtain ⟨⟨h1, h2⟩, h3⟩ := h
  cases a3 <;> cases b3 <;> simp at h3
  rw [Nat.eq_of_beq_eq_true h1, Nat.eq_of_beq_eq_true h2]
theorem vSame1_eq {a b : Value} (h : vSame1 a b = true) : a = b := by
  unfold vSame1 at h
  split at h
  · rw [addrSame_eq h]
  · simp only [Bool.and_eq_true] at h; rw [addrSame_eq h.1.1, Nat.eq_of_beq_eq_true h.1.2, Nat.eq_of_beq_eq_true h.2]
  · rename_i x y
    have h : x.data.toList = y.data.toList := by simpa [baSame] using h
    obtain ⟨⟨x⟩⟩ := x
    obtain ⟨⟨y⟩⟩ := y
    have : x = y := h
    subst this
    rfl
  · rw [Nat.eq_of_beq_eq_true h]
  · exact sEq_eq h
theorem vSameL_eq : ∀ {a b : List Value}, vSameL a b = true → a = b
  | [], [], _ => rfl
  | a :: as, b :: bs, h => by
    simp only [vSameL, Bool.and_eq_true] at h
    rw [vSame1_eq h.1, vSameL_eq h.2]
  | [], _ :: _, h => by simp [vSameL] at h
  | _ :: _, [], h => by simp [vSameL] at h
theorem vSame_eq {a b : Value} (h : vSame a b = true) : a = b := by
  unfold vSame at h
  split at h
  · have := vSameL_eq h; simp_all
  · rfl
  · simp only [Bool.and_eq_true] at h
    have h1 := vSameL_eq h.1.2
    have h2 := vSameL_eq h.2
    rw [Nat.eq_of_beq_eq_true h.1.1]
    simp_all
  · simp only [Bool.and_eq_true] at h
    have h2 := vSameL_eq h.2
    rw [Nat.eq_of_beq_eq_true h.1]
    simp_all
  · exact vSame1_eq h
/-- the values are the same -/
@[irreducible] def sameK (a b : Value) (p : Prop) : Prop := match vSame a b with | true => p | false => a = b ∧ p
theorem sameK_iff {a b : Value} {p : Prop} : sameK a b p ↔ a = b ∧ p := by
  unfold sameK
  split
  · rename_i h; exact ⟨fun hp => ⟨vSame_eq h, hp⟩, fun h => h.2⟩
  · exact Iff.rfl
theorem sameK_rfl {a : Value} {p : Prop} (h : p) : sameK a a p := sameK_iff.2 ⟨rfl, h⟩
noncomputable def recheckK (tt : Tab) (l : List Oper) (rc : List Nat) : List (Nat × Value) → St → Prop → Prop :=
  List.rec (motive := fun _ => List (Nat × Value) → St → Prop → Prop) (fun _ _ p => p)
    (fun m _ ih D s p => assocK D m fun v => nthK l m fun o => qvK tt l o s fun v' => sameK v' v (ih D s p)) rc
theorem recheckK_nil {tt : Tab} {l : List Oper} {D : List (Nat × Value)} {s : St} {p : Prop} : recheckK tt l [] D s p = p := rfl
theorem recheckK_cons {tt : Tab} {l : List Oper} {m : Nat} {rc : List Nat} {D : List (Nat × Value)} {s : St} {p : Prop} :
    recheckK tt l (m :: rc) D s p = assocK D m fun v => nthK l m fun o => qvK tt l o s fun v' => sameK v' v (recheckK tt l rc D s p) := rfl
abbrev altK (rest : Plan) (a b : Prop) : Prop := match rest with | .stop => a | _ => a ∧ b
noncomputable def planK (tt : Tab) (I : Interp) (cx : Cx) (l : List Oper) (K : EK) (p : Plan) : List (Nat × Value) → St → Prop :=
  Plan.rec (motive := fun _ => List (Nat × Value) → St → Prop)
    (fun _ s => K .normal s)
    (fun i _ ih D s => nthK l i fun o => qvK tt l o s fun v => putSt o.dst v s fun s' => ih ((i, v) :: D) s')
    (fun j rc _ rest ihp ihr D s => altK rest (nthK l j fun o => opG tt I cx l o K s fun s' => recheckK tt l rc D s' (ihp D s')) (ihr D s))
    (fun _ _ => True) p
theorem planK_quiet {tt : Tab} {I : Interp} {cx : Cx} {l : List Oper} {K : EK} {i : Nat} {p : Plan} {D : List (Nat × Value)} {s : St} :
    planK tt I cx l K (.quiet i p) D s = nthK l i fun o => qvK tt l o s fun v => putSt o.dst v s fun s' => planK tt I cx l K p ((i, v) :: D) s' := rfl
theorem planK_alt {tt : Tab} {I : Interp} {cx : Cx} {l : List Oper} {K : EK} {j : Nat} {rc : List Nat} {p rest : Plan} {D : List (Nat × Value)} {s : St} :
    planK tt I cx l K (.alt j rc p rest) D s = altK rest (nthK l j fun o => opG tt I cx l o K s fun s' => recheckK tt l rc D s' (planK tt I cx l K p D s')) (planK tt I cx l K rest D s) := rfl

def clearT (l : List Oper) (t : List Value) : List Value := l.foldl (fun t o => match o.dst with | some d => t.set d undef | none => t) t
abbrev forgetE (l : List Oper) (K : EK) : EK := fun e s =>
  match e with
  | .panic ch => (match s with | ⟨t, d, u, H⟩ => K (.panic ch) ⟨clearT l t, d, u, H⟩)
  | e => K e s

/-! the check of a plan -/
def aftersB (o : Oper) : List Nat := (o.after.toList.filter fun e => Region.binds .any e).map (·.on)
def subB (xs ys : List Nat) : Bool := xs.all fun x => ys.contains x
def rdyB (l : List Oper) (d : List Nat) (i : Nat) : Bool := match l[i]? with | some o => !d.contains i && subB (aftersB o) d | none => false
def loadish (tt : Tab) (o : Oper) : Bool := quietOp tt o.op && !pureOp tt o.op
def rcB (tt : Tab) (l : List Oper) (anc : List (List Nat)) (d : List Nat) (j : Nat) (rc : List Nat) : Bool :=
  (rc.all fun m => d.contains m && (match l[m]? with | some o => loadish tt o | none => false) && !(anc.getD j []).contains m) &&
  (d.all fun m => (match l[m]? with | some o => !loadish tt o | none => false) || (anc.getD j []).contains m || rc.contains m)
def validB (tt : Tab) (l : List Oper) (anc : List (List Nat)) : Plan → List Nat → List Nat → Bool
  | .done, c, d => c.isEmpty && (List.range l.length).all fun i => !rdyB l d i
  | .quiet i p, c, d => c.isEmpty && rdyB l d i && (match l[i]? with | some o => quietOp tt o.op | none => false) && validB tt l anc p [] (i :: d)
  | .alt j rc p rest, c, d => rdyB l d j && (match l[j]? with | some o => !quietOp tt o.op | none => false) && rcB tt l anc d j rc && validB tt l anc p [] (j :: d) && validB tt l anc rest (j :: c) d
  | .stop, c, d => !c.isEmpty && (List.range l.length).all fun i => !rdyB l d i || c.contains i
def closedB (l : List Oper) (anc : List (List Nat)) : Bool :=
  (List.range l.length).all fun j => match l[j]? with
    | some o => (anc.getD j []).all fun a => (aftersB o).contains a || (aftersB o).any fun e => (anc.getD e []).contains a
    | none => true
def apartB (l : List Oper) (x y : Oper) : Bool := dstNot x.dst (looksL l y) && dstNe x.dst y.dst && dstNot y.dst (looksL l x)
def pairsB (tt : Tab) (l : List Oper) (anc : List (List Nat)) : Bool :=
  (List.range l.length).all fun i => (List.range l.length).all fun j => match l[i]? with
    | some oi => (match l[j]? with
      | some oj => !quietOp tt oi.op || Nat.beq i j || (anc.getD j []).contains i || (anc.getD i []).contains j || apartB l oi oj
      | none => true)
    | none => true
def recB (tt : Tab) (l : List Oper) (anc : List (List Nat)) : Bool :=
  (List.range l.length).all fun m => match l[m]? with
    | some om => !loadish tt om || (List.range l.length).all fun i => match l[i]? with
      | some oi => !quietOp tt oi.op || dstNot oi.dst (looksL l om) || (anc.getD m []).contains i ||
          (List.range l.length).all fun j => match l[j]? with
            | some oj => quietOp tt oj.op || (anc.getD j []).contains m || (anc.getD j []).contains i || (anc.getD i []).contains j
            | none => true
      | none => true
    | none => true
def planOk (tt : Tab) (l : List Oper) (anc : List (List Nat)) (p : Plan) : Bool :=
  closedB l anc && pairsB tt l anc && recB tt l anc && validB tt l anc p [] []

/-! the same, as propositions -/
def A (anc : List (List Nat)) (j i : Nat) : Prop := i ∈ anc.getD j []
def add (d : Nat → Prop) (i : Nat) : Nat → Prop := fun x => x = i ∨ d x
def Rdy (l : List Oper) (d : Nat → Prop) (i : Nat) : Prop := ∃ o, l[i]? = some o ∧ ¬ d i ∧ ∀ e ∈ aftersB o, d e
def RcOk (tt : Tab) (l : List Oper) (anc : List (List Nat)) (d : Nat → Prop) (j : Nat) (rc : List Nat) : Prop :=
  (∀ m ∈ rc, d m ∧ (∃ o, l[m]? = some o ∧ loadish tt o = true) ∧ ¬ A anc j m) ∧ (∀ m o, l[m]? = some o → d m → loadish tt o = true → ¬ A anc j m → m ∈ rc)
def Valid (tt : Tab) (l : List Oper) (anc : List (List Nat)) : Plan → List Nat → (Nat → Prop) → Prop
  | .done, c, d => c = [] ∧ ∀ i, ¬ Rdy l d i
  | .quiet i p, c, d => c = [] ∧ Rdy l d i ∧ (∃ o, l[i]? = some o ∧ quietOp tt o.op = true) ∧ Valid tt l anc p [] (add d i)
  | .alt j rc p rest, c, d => Rdy l d j ∧ (∃ o, l[j]? = some o ∧ quietOp tt o.op = false) ∧ RcOk tt l anc d j rc ∧ Valid tt l anc p [] (add d j) ∧ Valid tt l anc rest (j :: c) d
  | .stop, c, d => c ≠ [] ∧ ∀ i, Rdy l d i → i ∈ c
structure Good (tt : Tab) (l : List Oper) (anc : List (List Nat)) : Prop where
  closed : ∀ j o, l[j]? = some o → ∀ a, A anc j a → a ∈ aftersB o ∨ ∃ e ∈ aftersB o, A anc e a
  pairs : ∀ i j oi oj, l[i]? = some oi → l[j]? = some oj → quietOp tt oi.op = true → i ≠ j → ¬ A anc j i → ¬ A anc i j → apartB l oi oj = true
  recs : ∀ m i j om oi oj, l[m]? = some om → l[i]? = some oi → l[j]? = some oj → loadish tt om = true → quietOp tt oi.op = true → quietOp tt oj.op = false → ¬ A anc m i → ¬ A anc j m → ¬ A anc j i → ¬ A anc i j → dstNot oi.dst (looksL l om) = true

section
variable {tt : Tab} {l : List Oper} {anc : List (List Nat)}
theorem mem_set (d : List Nat) (i : Nat) : (fun x => x ∈ i :: d) = add (fun x => x ∈ d) i := by
  funext x; simp [add]
theorem rdyB_iff (d : List Nat) (i : Nat) : rdyB l d i = true ↔ Rdy l (fun x => x ∈ d) i := by
  unfold rdyB Rdy subB
  cases h : l[i]? with
  | none => simp
  | some o => simp [List.all_eq_true]
theorem lt_of_get {o : Oper} {i : Nat} (h : l[i]? = some o) : i < l.length := (List.getElem?_eq_some_iff.1 h).1
theorem validB_spec : ∀ (p : Plan) (c d : List Nat), validB tt l anc p c d = true → Valid tt l anc p c (fun x => x ∈ d)
  | .done, c, d, h => by
    simp only [validB, Bool.and_eq_true, List.isEmpty_iff, List.all_eq_true, List.mem_range] at h
    refine ⟨h.1, fun i hi => ?_⟩
    obtain ⟨o, ho, _⟩ := id hi
    have := h.2 i (lt_of_get ho)
    rw [(rdyB_iff d i).2 hi] at this
    exact absurd this (by simp)
  | .quiet i p, c, d, h => by
    simp only [validB, Bool.and_eq_true, List.isEmpty_iff] at h
    obtain ⟨⟨⟨h1, h2⟩, h3⟩, h4⟩ := h
    refine ⟨h1, (rdyB_iff d i).1 h2, ?_, ?_⟩
    · cases ho : l[i]? with
      | none => rw [ho] at h3; exact absurd h3 (by simp)
      | some o => rw [ho] at h3; exact ⟨o, rfl, h3⟩
    · rw [← mem_set]; exact validB_spec p [] (i :: d) h4
  | .alt j rc p rest, c, d, h => by
    simp only [validB, Bool.and_eq_true] at h
    obtain ⟨⟨⟨⟨h1, h2⟩, h3⟩, h4⟩, h5⟩ := h
    refine ⟨(rdyB_iff d j).1 h1, ?_, ?_, ?_, validB_spec rest (j :: c) d h5⟩
    · cases ho : l[j]? with
      | none => rw [ho] at h2; exact absurd h2 (by simp)
      | some o => rw [ho] at h2; exact ⟨o, rfl, by simpa using h2⟩
    · unfold rcB at h3
      simp only [Bool.and_eq_true, List.all_eq_true, Bool.or_eq_true] at h3
      refine ⟨fun m hm => ?_, fun m o ho hm hl hA => ?_⟩
      · obtain ⟨⟨a1, a2⟩, a3⟩ := h3.1 m hm
        refine ⟨by simpa using a1, ?_, by simpa [A] using a3⟩
        cases ho : l[m]? with
        | none => rw [ho] at a2; exact absurd a2 (by simp)
        | some o => rw [ho] at a2; exact ⟨o, rfl, a2⟩
      · rcases h3.2 m hm with (h | h) | h
        · rw [ho] at h; simp [hl] at h
        · exact absurd (by simpa [A] using h) hA
        · simpa using h
    · rw [← mem_set]; exact validB_spec p [] (j :: d) h4
  | .stop, c, d, h => by
    simp only [validB, Bool.and_eq_true, List.all_eq_true, List.mem_range, Bool.or_eq_true] at h
    refine ⟨by intro e; subst e; simp at h, fun i hi => ?_⟩
    obtain ⟨o, ho, _⟩ := id hi
    rcases h.2 i (lt_of_get ho) with h | h
    · rw [(rdyB_iff d i).2 hi] at h; exact absurd h (by simp)
    · simpa using h
theorem good_of (h1 : closedB l anc = true) (h2 : pairsB tt l anc = true) (h3 : recB tt l anc = true) : Good tt l anc where
  closed j o ho a ha := by
    unfold closedB at h1
    simp only [List.all_eq_true, List.mem_range] at h1
    have := h1 j (lt_of_get ho)
    rw [ho] at this
    simp only [List.all_eq_true, Bool.or_eq_true] at this
    rcases this a ha with h | h
    · exact .inl (by simpa using h)
    · refine .inr ?_
      simp only [List.any_eq_true] at h
      obtain ⟨e, he, h⟩ := h
      exact ⟨e, he, by simpa [A] using h⟩
  pairs i j oi oj hi hj hq hne n1 n2 := by
    unfold pairsB at h2
    simp only [List.all_eq_true, List.mem_range] at h2
    have := h2 i (lt_of_get hi) j (lt_of_get hj)
    rw [hi, hj] at this
    simp only [Bool.or_eq_true] at this
    rcases this with (((h | h) | h) | h) | h
    · simp [hq] at h
    · exact absurd (Nat.eq_of_beq_eq_true h) hne
    · exact absurd (by simpa [A] using h) n1
    · exact absurd (by simpa [A] using h) n2
    · exact h
  recs m i j om oi oj hm hi hj hl hq hqj n1 n2 n3 n4 := by
    unfold recB at h3
    simp only [List.all_eq_true, List.mem_range] at h3
    have := h3 m (lt_of_get hm)
    rw [hm] at this
    simp only [hl, Bool.not_true, Bool.false_or, List.all_eq_true, List.mem_range] at this
    have := this i (lt_of_get hi)
    rw [hi] at this
    simp only [hq, Bool.not_true, Bool.false_or, Bool.or_eq_true, List.all_eq_true, List.mem_range] at this
    rcases this with (h | h) | h
    · exact h
    · exact absurd (by simpa [A] using h) n1
    · have := h j (lt_of_get hj)
      rw [hj] at this
      simp only [hqj, Bool.false_or, Bool.or_eq_true] at this
      rcases this with (h | h) | h
      · exact absurd (by simpa [A] using h) n2
      · exact absurd (by simpa [A] using h) n3
      · exact absurd (by simpa [A] using h) n4
end
end Go.Abs
