/- Soundness of the table of operations. -/
import Derived.Test.YtbmbabgkpcnppaaAbsPrim2
set_option linter.all false
namespace Go.Abs
open Go

theorem nthK_elim {α : Type} : ∀ {l : List α} {i : Nat} {k : α → Prop}, nthK l i k → ∃ x, l[i]? = some x ∧ k x
  | [], _, _, h => h.elim
  | x :: _, 0, _, h => ⟨x, rfl, h⟩
  | _ :: xs, i + 1, _, h => by obtain ⟨y, h1, h2⟩ := nthK_elim (l := xs) h; exact ⟨y, by simpa using h1, h2⟩
theorem nthK_of {α : Type} : ∀ {l : List α} {i : Nat} {k : α → Prop} {x : α}, l[i]? = some x → k x → nthK l i k
  | [], _, _, _, h, _ => by simp at h
  | y :: _, 0, _, x, h, hk => by simp at h; subst h; exact hk
  | _ :: xs, i + 1, _, x, h, hk => nthK_of (l := xs) (by simpa using h) hk

section
variable {P : Program} {tt : Tab} {w0 : World} {E : Env} {H : AHeap} {w : World} {k : Value → AHeap → Prop} {t : List Value} {t' : Array Value}

theorem evalsK_elim (hr : LRel E t t') : ∀ {xs : List Operand} {k : List Value → Prop}, evalsK t xs k → ∃ vs, k vs ∧ LRel E vs (xs.map (evalC t')).toArray
  | [], k, h => ⟨[], h, LRel.nil E⟩
  | x :: xs, k, h => by
    obtain ⟨v, h1, h2⟩ := evalK_elim hr h
    obtain ⟨vs, h3, h4⟩ := evalsK_elim hr h1
    exact ⟨v :: vs, h3, LRel.cons h2 h4⟩

/-- parts: the same numbers, related values -/
def PRel (E : Env) : List (Nat × Value) → List (Nat × Value) → Prop
  | [], [] => True
  | (i, v) :: ps, (j, v') :: qs => i = j ∧ VRel E v v' ∧ PRel E ps qs
  | _, _ => False
theorem evalPK_elim (hr : LRel E t t') : ∀ {xs : List (Nat × Operand)} {k : List (Nat × Value) → Prop}, evalPK t xs k → ∃ vs, k vs ∧ PRel E vs (xs.map fun (i, x) => (i, evalC t' x))
  | [], k, h => ⟨[], h, trivial⟩
  | (i, x) :: xs, k, h => by
    obtain ⟨v, h1, h2⟩ := evalK_elim hr h
    obtain ⟨vs, h3, h4⟩ := evalPK_elim hr h1
    exact ⟨(i, v) :: vs, h3, rfl, h2, h4⟩
theorem optK_elim (hr : LRel E t t') {x : Option Operand} {k : Option Value → Prop} (h : optK t x k) :
    ∃ o, k o ∧ (match o, x.map (evalC t') with | none, none => True | some v, some v' => VRel E v v' | _, _ => False) := by
  cases x with
  | none => exact ⟨none, h, trivial⟩
  | some x => obtain ⟨v, h1, h2⟩ := evalK_elim hr h; exact ⟨some v, h1, h2⟩

theorem all_one {l : List Value} (h : l.all oneCell = true) : ∀ v ∈ l, oneCell v = true := by simpa using h
theorem cellsK_elim {v v' : Value} (hv : VRel E v v') {k : List Value → Prop} (h : cellsK v k) : ∃ cs, k cs ∧ LRel E cs v'.cells ∧ Ones v'.cells := by
  unfold cellsK at h
  split at h
  · split at h
    · rename_i hall
      cases hv with | agg _ fs' h1 h3 => exact ⟨_, h, ARel.toList ⟨h1, h3⟩, onesOf (ARel.toList ⟨h1, h3⟩) (all_one hall)⟩
    · exact h.elim
  · exact h.elim
  · exact h.elim
  · rename_i hn1 hn2 hn3
    have : v'.cells = #[v'] ∧ v'.oneCell' = true := by
      cases hv <;> first | exact ⟨rfl, rfl⟩ | (exact absurd rfl (hn1 _)) | (exact absurd rfl (hn2 _)) | (exact absurd rfl (hn3 _ _ _))
    refine ⟨_, h, ?_, ?_⟩
    · rw [this.1]
      exact LRel.cons hv (LRel.nil E)
    · rw [this.1]
      intro i u hu
      cases i with
      | zero => simp at hu; rw [← hu]; exact this.2
      | succ i => simp at hu

def puts : List Value → Nat → List Value → List Value
  | cs, _, [] => cs
  | cs, o, v :: vs => puts (cs.set o v) (o + 1) vs
theorem putsK_puts : ∀ (vs cs : List Value) (off : Nat) (k : List Value → Prop), putsK cs off vs k → k (puts cs off vs)
  | [], cs, off, k, h => h
  | v :: vs, cs, off, k, h => by
    simp only [putsK, setK_eq] at h
    exact putsK_puts vs (cs.set off v) (off + 1) k h
theorem fold_put {off : Nat} : ∀ {vs vs' : List Value} {cs : List Value} {cs' : Array Value} (n : Nat), LRel E cs cs' → LRel E vs vs'.toArray →
    LRel E (puts cs (off + n) vs) ((vs'.zipIdx n).foldl (fun a (x : Value × Nat) => a.setIfInBounds (off + x.2) x.1) cs')
  | [], [], cs, cs', n, hc, _ => hc
  | v :: vs, v' :: vs', cs, cs', n, hc, hv => by
    simp only [puts, List.zipIdx_cons, List.foldl_cons]
    have h0 : VRel E v v' := by have := hv.get 0 (by simp); simpa using this
    have h1 : LRel E vs vs'.toArray := ⟨by have := hv.size; simpa using this, fun i hi => by have := hv.get (i + 1) (by simp; omega); simpa [Array.getD_eq_getD_getElem?] using this⟩
    exact fold_put (off := off) (n + 1) (hc.set (off + n) h0) h1
  | [], _ :: _, _, _, _, _, hv => by have := hv.size; simp at this
  | _ :: _, [], _, _, _, _, hv => by have := hv.size; simp at this
theorem fold_put' {off : Nat} {vs : List Value} {vs' : Array Value} {cs : List Value} {cs' : Array Value} (hc : LRel E cs cs') (hv : LRel E vs vs') :
    LRel E (puts cs off vs) (vs'.zipIdx.foldl (fun a (x : Value × Nat) => a.setIfInBounds (off + x.2) x.1) cs') := by
  have := fold_put (off := off) (vs' := vs'.toList) 0 hc (by simpa using hv)
  rw [← Array.foldl_toList]
  simpa using this

theorem ones_put {off : Nat} {vs' : Array Value} {cs' : Array Value} (hc : Ones cs') (hv : Ones vs') :
    Ones (vs'.zipIdx.foldl (fun a (x : Value × Nat) => a.setIfInBounds (off + x.2) x.1) cs') := by
  have key : ∀ (l : List Value) (n : Nat) (cs' : Array Value), Ones cs' → (∀ v ∈ l, v.oneCell' = true) → Ones ((l.zipIdx n).foldl (fun a (x : Value × Nat) => a.setIfInBounds (off + x.2) x.1) cs') := by
    intro l
    induction l with
    | nil => intro n cs' h _; exact h
    | cons v l ih => intro n cs' h hl; simp only [List.zipIdx_cons, List.foldl_cons]; exact ih _ _ (h.set _ (hl v (by simp))) (fun u hu => hl u (by simp [hu]))
  have := key vs'.toList 0 cs' hc hv.mem
  rw [← Array.foldl_toList]
  simpa using this

theorem fillAK_elim {size : Nat} : ∀ {ps qs : List (Nat × Value)} {cs : List Value} {cs' : Array Value} {k : List Value → Prop}, PRel E ps qs → LRel E cs cs' → Ones cs' → fillAK size ps cs k →
    ∃ ds ds', k ds ∧ LRel E ds ds' ∧ Ones ds' ∧ Instr.fill (fun i => some (i * size, size)) cs' qs = some ds'
  | [], [], cs, cs', k, _, hc, hcs, h => ⟨cs, cs', h, hc, hcs, rfl⟩
  | (i, v) :: ps, (j, v') :: qs, cs, cs', k, hp, hc, hcs, h => by
    obtain ⟨rfl, hv, hp⟩ := hp
    simp only [fillAK] at h
    obtain ⟨vs, h1, h2, ho⟩ := cellsK_elim hv h
    obtain ⟨a, b, h3⟩ := bothK_elim h1
    have a' := Nat.eq_of_beq_eq_true a
    have b' := Nat.le_of_ble_eq_true b
    have h4 := putsK_puts _ _ _ _ h3
    obtain ⟨ds, ds', g1, g2, go, g3⟩ := fillAK_elim hp (fold_put' (off := i * size) hc h2) (ones_put hcs ho) h4
    refine ⟨ds, ds', g1, g2, go, ?_⟩
    have hs1 : v'.cells.size = size := by rw [← h2.size]; exact a'
    have hs2 : ¬ (i * size + v'.cells.size > cs'.size) := by rw [← h2.size, ← hc.size]; omega
    simp only [Instr.fill, hs1, ne_eq, not_true, decide_false, Bool.false_or]
    rw [if_neg (by rw [hs1] at hs2; simpa using hs2)]
    exact g3
  | [], _ :: _, _, _, _, hp, _, _, _ => hp.elim
  | _ :: _, [], _, _, _, hp, _, _, _ => hp.elim

theorem fillSK_elim (hT : TyOk P tt) {fs : List (Nat × TypeId)} {places : Array (Nat × Nat)}
    (hpl : ∀ (i : Nat) o ty, fs[i]? = some (o, ty) → ∀ te, tt[ty]? = some te → te.d ≠ .other → places[i]? = some (o, te.size)) :
    ∀ {ps qs : List (Nat × Value)} {cs : List Value} {cs' : Array Value} {k : List Value → Prop}, PRel E ps qs → LRel E cs cs' → Ones cs' → fillSK tt fs ps cs k →
    ∃ ds ds', k ds ∧ LRel E ds ds' ∧ Ones ds' ∧ Instr.fill (places[·]?) cs' qs = some ds'
  | [], [], cs, cs', k, _, hc, hcs, h => ⟨cs, cs', h, hc, hcs, rfl⟩
  | (i, v) :: ps, (j, v') :: qs, cs, cs', k, hp, hc, hcs, h => by
    obtain ⟨rfl, hv, hp⟩ := hp
    simp only [fillSK] at h
    obtain ⟨⟨o, ty⟩, hf, h0⟩ := nthK_elim h
    obtain ⟨te, ht, h0⟩ := tyK_elim h0
    obtain ⟨vs, h1, h2, ho⟩ := cellsK_elim hv h0
    obtain ⟨a, b, h3⟩ := bothK_elim h1
    obtain ⟨hne, h3'⟩ := okK_elim h3
    have a' := Nat.eq_of_beq_eq_true a
    have b' := Nat.le_of_ble_eq_true b
    have h4 := putsK_puts _ _ _ _ h3'
    obtain ⟨ds, ds', g1, g2, go, g3⟩ := fillSK_elim hT hpl hp (fold_put' (off := o) hc h2) (ones_put hcs ho) h4
    refine ⟨ds, ds', g1, g2, go, ?_⟩
    have hs1 : v'.cells.size = te.size := by rw [← h2.size]; exact a'
    have hs2 : ¬ (o + v'.cells.size > cs'.size) := by rw [← h2.size, ← hc.size]; omega
    simp only [Instr.fill, hpl i o ty hf te ht hne, hs1, ne_eq, not_true, decide_false, Bool.false_or]
    rw [if_neg (by rw [hs1] at hs2; simpa using hs2)]
    exact g3
  | [], _ :: _, _, _, _, hp, _, _, _ => hp.elim
  | _ :: _, [], _, _, _, hp, _, _, _ => hp.elim

theorem simple1_one {v : Value} (h : simple1 v = true) : v.oneCell' = true := by
  unfold simple1 at h
  split at h <;> first | rfl | (exact absurd h (by simp))
theorem zero_rel (hT : TyOk P tt) {ty : Nat} {te : TE} (hty : tt[ty]? = some te) (hd : te.d ≠ .other) (E : Env) :
    VRel E te.zero te.zero ∧ LRel E te.zero.cells.toList te.zero.cells ∧ te.zero.cells.size = te.size ∧ Ones te.zero.cells := by
  have h := hT ty te hty hd
  have hv := simpleV_rel (simpleZ_V h.simple) E
  have hsz := h.zsize
  have hs := h.simple
  refine ⟨hv, ?_, hsz, ?_⟩
  · cases hz : te.zero
    case agg cs => rw [hz] at hv; cases hv with | agg _ _ h1 h3 => exact ARel.toList ⟨h1, h3⟩
    all_goals (rw [hz] at hv; exact LRel.cons hv (LRel.nil E))
  · cases hz : te.zero
    case agg cs =>
      rw [hz] at hs
      intro i v hi
      exact simple1_one (allSimple_get (l := cs.toList) hs i v (by simpa [Value.cells] using hi))
    all_goals
      rw [hz] at hs
      intro i v hi
      cases i with
      | zero => simp [Value.cells] at hi; rw [← hi]; exact simple1_one hs
      | succ i => simp [Value.cells] at hi

theorem flat_get (z : List Value) : ∀ (n k : Nat), k < n * z.length → (List.replicate n z).flatten[k]? = z[k % z.length]?
  | 0, k, h => by simp at h
  | n + 1, k, h => by
    rw [List.replicate_succ, List.flatten_cons, List.getElem?_append]
    split
    · rename_i hk; rw [Nat.mod_eq_of_lt hk]
    · rename_i hk
      have h2 : k - z.length < n * z.length := by rw [Nat.add_mul] at h; omega
      rw [flat_get z n (k - z.length) h2, ← Nat.mod_eq_sub_mod (by omega)]
theorem zeroRow_get (z : List Value) (n k : Nat) (h : k < n * z.length) : (zeroRow n z)[k]? = z[k % z.length]? := by
  unfold zeroRow
  split
  · rename_i v
    have h' : k < n := by simpa using h
    simp [h', Nat.mod_one]
  · exact flat_get z n k h
theorem zeroRow_length (z : List Value) (n : Nat) : (zeroRow n z).length = n * z.length := by
  unfold zeroRow
  split
  · simp
  · simp
theorem zeroRow_rel {z : List Value} {z' : Array Value} (hz : LRel E z z') (n : Nat) : LRel E (zeroRow n z) ((Array.range (n * z'.size)).map (z'[· % z'.size]!)) := by
  refine LRel.of_get (by rw [zeroRow_length]; simp [hz.size]) fun k v hv => ?_
  have hk : k < n * z.length := by rw [← zeroRow_length]; exact (List.getElem?_eq_some_iff.1 hv).1
  rw [zeroRow_get z n k hk] at hv
  obtain ⟨v', h1, h2⟩ := hz.getElem? hv
  refine ⟨v', ?_, h2⟩
  rw [hz.size] at h1 hk
  simp [hk, getElem!_def, h1]

theorem zeroRow_ones {z' : Array Value} (hz : Ones z') (n : Nat) : Ones ((Array.range (n * z'.size)).map (z'[· % z'.size]!)) := by
  intro i v hi
  have hlt : i < n * z'.size := by have := (Array.getElem?_eq_some_iff.1 hi).1; simpa using this
  have hpos : 0 < z'.size := by
    rcases Nat.eq_zero_or_pos z'.size with h | h
    · rw [h] at hlt; simp at hlt
    · exact h
  have hm : i % z'.size < z'.size := Nat.mod_lt _ hpos
  simp [hlt, getElem!_def, hm] at hi
  exact hz (i % z'.size) v (by simp [hm, hi])
theorem bytesV_rel (s : ByteArray) (E : Env) : LRel E (bytesV s) (s.data.map fun b => .int .u8 b.toNat) := by
  unfold bytesV
  exact LRel.map s.data _ _ fun b _ => .int .u8 b.toNat

theorem src_elim {size : Nat} {x x' : Value} (hx : VRel E x x') {k : Nat → List Value → Prop} (hk : srcK H size x k) :
    ∃ n new, k n new ∧ new.length = n * size ∧ ∀ (w0 w : World), Rel w0 E H w → (Builtin.lenOf x').run P w = .ok n w ∧
      ∀ m, m ≤ n → ∃ a', (Builtin.firstCells size m x').run P w = .ok a' w ∧ LRel E (new.take (m * size)) a' ∧ Ones a' := by
  unfold srcK at hk
  split at hk
  · rename_i i off sp n cap
    obtain ⟨c, own, sz, h1, h2, h3⟩ := loadsK_elim hk
    have main : ∀ (w0 w : World), Rel w0 E H w → ∀ m, m ≤ n → ∃ a', (loadCells ⟨E.b i, E.d i + off, none⟩ (m * size)).run P w = .ok a' w ∧ LRel E (((c.drop off).take (n * size)).take (m * size)) a' ∧ Ones a' := by
      intro w0 w h m hm
      have hle : m * size ≤ n * size := Nat.mul_le_mul_right _ hm
      obtain ⟨a', p, q, o1⟩ := run_loadCells_of (P := P) h h1 (n := m * size) (off := off) (by omega)
      exact ⟨a', p, by rw [List.take_take, Nat.min_eq_left hle]; exact q, o1⟩
    have hlen : ((c.drop off).take (n * size)).length = n * size := by simp; omega
    cases hx with
    | slice _ _ _ _ hlt => exact ⟨n, _, h3, hlen, fun w0 w h => ⟨rfl, main w0 w h⟩⟩
    | slice0 _ _ x0 hlt hs =>
      refine ⟨0, _, h3, hlen, fun w0 w h => ⟨rfl, fun m hm => ?_⟩⟩
      have : m = 0 := by omega
      subst this
      exact ⟨#[], by simp [Builtin.firstCells, loadCells, loadCellsFrom], by simp; exact LRel.nil E, Ones.nil⟩
  · cases hx
    exact ⟨0, [], hk, by simp, fun w0 w h => ⟨rfl, fun m hm => ⟨#[], rfl, by simp; exact LRel.nil E, Ones.nil⟩⟩⟩
  · rename_i s
    cases hx
    split at hk
    · rename_i hs
      have hs1 := Nat.eq_of_beq_eq_true hs
      subst hs1
      have hb := bytesV_rel s E
      refine ⟨s.size, _, hk, by simp [bytesV], fun w0 w h => ⟨rfl, fun m hm => ⟨_, rfl, ?_, fun i v hv => ?_⟩⟩⟩
      rotate_left
      · simp only [Array.getElem?_map, Option.map_eq_some_iff] at hv; obtain ⟨b, _, rfl⟩ := hv; rfl
      refine LRel.of_get (by simp [bytesV]) fun j v hv => ?_
      have hj : j < m := by have := (List.getElem?_eq_some_iff.1 hv).1; simp at this; omega
      rw [List.getElem?_take_of_lt (by omega)] at hv
      obtain ⟨v', p, q⟩ := hb.getElem? hv
      refine ⟨v', ?_, q⟩
      have hx : (s.extract 0 m).data[j]? = s.data[j]? := by
        rw [ByteArray.data_extract, Array.getElem?_extract, Nat.zero_add, if_pos (by have : s.data.size = s.size := rfl; omega)]
      rw [Array.getElem?_map] at p ⊢
      rw [hx]; exact p
    · exact hk.elim
  · exact hk.elim
end
end Go.Abs
