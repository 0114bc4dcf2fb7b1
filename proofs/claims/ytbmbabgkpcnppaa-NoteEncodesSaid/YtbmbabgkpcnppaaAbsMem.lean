/- Runs of the model's small programs on related worlds: types, loads, stores. -/
import Derived.Test.YtbmbabgkpcnppaaAbsOps
import Derived.Laws.Cells
set_option linter.all false
namespace Go.Abs
open Go

theorem add_mk (b o j : Nat) : (⟨b, o, none⟩ : Addr).add j = ⟨b, o + j, none⟩ := by
  unfold Addr.add; split
  · rename_i h; subst h; rfl
  · rfl

section types
variable {P : Program} {tt : Tab} {t : Nat} {e : TE} {w : World}
theorem run_und (hT : TyOk P tt) (he : tt[t]? = some e) (hd : e.d ≠ .other) : ∃ d, (underlying t).run P w = .ok d w ∧ DOk d e.d := by
  obtain ⟨d, h1, h2⟩ := (hT t e he hd).und
  exact ⟨d, by simp [underlying, h1], h2⟩
theorem run_sizeOf (hT : TyOk P tt) (he : tt[t]? = some e) (hd : e.d ≠ .other) : (sizeOf t).run P w = .ok e.size w := by
  obtain ⟨i, h1, h2, h3, h4⟩ := (hT t e he hd).info
  simp [sizeOf, typeInfo, h1, h2]
theorem run_typeInfo (hT : TyOk P tt) (he : tt[t]? = some e) (hd : e.d ≠ .other) : ∃ i, (typeInfo t).run P w = .ok i w ∧ i.bytes = e.bytes ∧ i.size = e.size := by
  obtain ⟨i, h1, h2, h3, h4⟩ := (hT t e he hd).info
  exact ⟨i, by simp [typeInfo, h1], h3, h2⟩
theorem run_zeroValue (hT : TyOk P tt) (he : tt[t]? = some e) (hd : e.d ≠ .other) : (zeroValue t).run P w = .ok e.zero w := by
  obtain ⟨i, h1, h2, h3, h4⟩ := (hT t e he hd).info
  simp [zeroValue, typeInfo, h1, h4]
theorem run_isAgg (hT : TyOk P tt) (he : tt[t]? = some e) (hd : e.d ≠ .other) : (isAgg t).run P w = .ok e.d.agg w := by
  obtain ⟨d, h1, h2⟩ := run_und (w := w) hT he hd
  simp only [isAgg, Sem.run_bind, h1, Result.andThen_ok]
  cases hed : e.d <;> simp only [hed, DOk] at h2
  case struct => obtain ⟨gs, rfl, _⟩ := h2; rfl
  case func => obtain ⟨a, b, c, rfl⟩ := h2; rfl
  case iface => obtain ⟨a, rfl, _⟩ := h2; rfl
  case other => exact absurd hed hd
  all_goals (subst h2; rfl)
end types

section mem
variable {P : Program} {w0 : World} {E : Env} {H : AHeap} {w : World}

theorem Rel.cells (h : Rel w0 E H w) {i : Nat} {c : List Value} {own : Bool} {sz : Nat} (hi : H.get i = some (.cells c own sz)) (hne : c ≠ [] ∨ own = true) :
    ∃ c' el fr, w.heap[E.b i]? = some (.cells c' el fr) ∧ (∀ (k : Nat) v, c[k]? = some v → ∃ v', c'[E.d i + k]? = some v' ∧ VRel E v v' ∧ v'.oneCell' = true) ∧
      (own = true → E.d i + c.length + E.s i * sz ≤ c'.size ∧ ∀ k, k < c.length + E.s i * sz → ¬(fr.1 ≤ E.d i + k ∧ E.d i + k < fr.2)) ∧ i < E.n := by
  obtain ⟨a, _, ⟨e1, e2⟩ | ⟨c', el, fr, h1, h2, h3⟩⟩ := h.obj i _ hi
  · rcases hne with hn | hn
    · exact absurd e1 hn
    · rw [e2] at hn; exact absurd hn (by simp)
  exact ⟨c', el, fr, h1, h2, h3, h.n ▸ a⟩

theorem run_load_of (h : Rel w0 E H w) {i off : Nat} {c : List Value} {own : Bool} {sz : Nat} (hi : H.get i = some (.cells c own sz)) {v : Value} (hv : c[off]? = some v) :
    ∃ v', (load ⟨E.b i, E.d i + off, none⟩).run P w = .ok v' w ∧ VRel E v v' := by
  obtain ⟨c', el, fr, h1, h2, _⟩ := h.cells hi (.inl (by intro e; subst e; simp at hv))
  obtain ⟨v', h3, h4, _⟩ := h2 off v hv
  have : w.cell? ⟨E.b i, E.d i + off, none⟩ = some v' := by simp [World.cell?, h1, h3]
  exact ⟨v', by simp [this], h4⟩

/-- each value fills one cell -/
def Ones (a : Array Value) : Prop := ∀ (i : Nat) v, a[i]? = some v → v.oneCell' = true
theorem Ones.nil : Ones #[] := fun i v h => by simp at h
theorem Ones.append {a b : Array Value} (h : Ones a) (g : Ones b) : Ones (a ++ b) := fun i v hv => by
  rw [Array.getElem?_append] at hv
  split at hv
  · exact h _ _ hv
  · exact g _ _ hv
theorem Ones.set {a : Array Value} (h : Ones a) (i : Nat) {v : Value} (hv : v.oneCell' = true) : Ones (a.setIfInBounds i v) := fun j u hu => by
  rw [Array.getElem?_setIfInBounds] at hu
  split at hu
  · split at hu
    · cases hu; exact hv
    · exact absurd hu (by simp)
  · exact h _ _ hu
theorem Ones.mem {a : Array Value} (h : Ones a) : ∀ v ∈ a.toList, v.oneCell' = true := fun v hv => by
  obtain ⟨k, hk⟩ := List.getElem?_of_mem hv
  exact h k v (by simpa using hk)

theorem run_loadCells_of (h : Rel w0 E H w) {i off n : Nat} {c : List Value} {own : Bool} {sz : Nat} (hi : H.get i = some (.cells c own sz)) (hn : off + n ≤ c.length) :
    ∃ vs', (loadCells ⟨E.b i, E.d i + off, none⟩ n).run P w = .ok vs' w ∧ LRel E ((c.drop off).take n) vs' ∧ Ones vs' := by
  by_cases hz : n = 0
  · subst hz
    exact ⟨#[], by simp [loadCells, loadCellsFrom], by simpa using LRel.nil E, Ones.nil⟩
  obtain ⟨c', el, fr, h1, h2, _⟩ := h.cells hi (.inl (by intro e; subst e; simp at hn; omega))
  have hget : ∀ k, k < n → ∃ v', c'[E.d i + off + k]? = some v' ∧ VRel E (c.getD (off + k) undef) v' ∧ v'.oneCell' = true := by
    intro k hk
    have hlt : off + k < c.length := by omega
    obtain ⟨v', a, b, o1⟩ := h2 (off + k) c[off + k] (by simp [hlt])
    exact ⟨v', by rw [Nat.add_assoc]; exact a, by simpa [List.getD, hlt] using b, o1⟩
  refine ⟨_, run_loadCells w ⟨E.b i, E.d i + off, none⟩ n (fun k => c'.getD (E.d i + off + k) undef) (fun k hk => ?_), ?_, ?_⟩
  · obtain ⟨v', a, _, _⟩ := hget k hk
    rw [add_mk]
    simp [World.cell?, h1, a, Array.getD_eq_getD_getElem?]
  · refine LRel.of_get (by simp <;> omega) fun k v hv => ?_
    have hk : k < n := by
      have := (List.getElem?_eq_some_iff.1 hv).1
      simp at this; omega
    rw [List.getElem?_take_of_lt hk, List.getElem?_drop] at hv
    obtain ⟨v', a, b, _⟩ := hget k hk
    refine ⟨v', by simp [hk, Array.getD_eq_getD_getElem?, a], ?_⟩
    simpa [List.getD, hv] using b
  · intro k v hv
    have hk : k < n := by
      have := (Array.getElem?_eq_some_iff.1 hv).1
      simpa using this
    obtain ⟨v', a, _, o1⟩ := hget k hk
    simp [hk, Array.getD_eq_getD_getElem?, a] at hv
    rw [← hv]; exact o1

/-- w' is w but for the cells of one block -/
structure Wr (b : Nat) (c'' : Array Value) (el : TypeId) (fr : Nat × Nat) (w w' : World) : Prop where
  size : w'.heap.size = w.heap.size
  tape : w'.tape = w.tape
  os : w'.os = w.os
  output : w'.output = w.output
  same : ∀ x, x ≠ b → w'.heap[x]? = w.heap[x]?
  at_ : w'.heap[b]? = some (.cells c'' el fr)

theorem setCell_wr {b o : Nat} {v : Value} {c' : Array Value} {el : TypeId} {fr : Nat × Nat} (h : w.heap[b]? = some (.cells c' el fr)) :
    Wr b (c'.setIfInBounds o v) el fr w (w.setCell ⟨b, o, none⟩ v) where
  size := by simp [World.setCell]
  tape := rfl
  os := rfl
  output := rfl
  same x hx := by simp [World.setCell, Array.getElem?_modify, Ne.symm hx]
  at_ := by simp [World.setCell, Array.getElem?_modify, h]

def oneCell : Value → Bool
  | .agg _ | .tuple _ | .complex _ _ _ => false
  | _ => true
theorem oneCell_rel {v v' : Value} (h : VRel E v v') (ho : oneCell v = true) : v'.oneCell' = true ∧ v.cells = #[v] ∧ v'.cells = #[v'] := by
  cases h <;> first | exact ⟨rfl, rfl, rfl⟩ | (simp [oneCell] at ho; done)

theorem run_store1 {b o : Nat} {v : Value} {c' : Array Value} {el : TypeId} {fr : Nat × Nat} (h : w.heap[b]? = some (.cells c' el fr)) (ho : o < c'.size)
    (hfr : ¬(fr.1 ≤ o ∧ o < fr.2)) (hv : v.oneCell' = true) : (store ⟨b, o, none⟩ v).run P w = .ok () (w.setCell ⟨b, o, none⟩ v) := by
  rw [run_store _ _ _ _ _ hv]
  have h1 : w.cell? ⟨b, o, none⟩ = some c'[o] := by simp [World.cell?, h, ho]
  have h2 : w.frozen? ⟨b, o, none⟩ = false := by
    simp only [World.frozen?, h]
    rw [Bool.eq_false_iff]
    intro hh
    simp only [Bool.and_eq_true, decide_eq_true_eq] at hh
    exact hfr hh
  simp [h1, h2]

theorem run_storeCells {b o : Nat} {el : TypeId} {fr : Nat × Nat} : ∀ (vs : List Value) (i : Nat) (c' : Array Value) (w : World), w.heap[b]? = some (.cells c' el fr) → o + i + vs.length ≤ c'.size →
    (∀ k, k < vs.length → ¬(fr.1 ≤ o + i + k ∧ o + i + k < fr.2)) → (∀ v ∈ vs, v.oneCell' = true) →
    ∃ w' c'', (storeCells ⟨b, o, none⟩ vs i).run P w = .ok () w' ∧ Wr b c'' el fr w w' ∧ c''.size = c'.size ∧
      ∀ k, c''[k]? = if o + i ≤ k ∧ k < o + i + vs.length then vs[k - (o + i)]? else c'[k]?
  | [], i, c', w, h, _, _, _ => by
    refine ⟨w, c', rfl, ⟨rfl, rfl, rfl, rfl, fun _ _ => rfl, h⟩, rfl, fun k => ?_⟩
    rw [if_neg (by simp only [List.length_nil]; omega)]
  | v :: vs, i, c', w, h, hs, hf, hv => by
    have hlt : o + i < c'.size := by simp at hs; omega
    have h1 := run_store1 (P := P) h hlt (by have := hf 0 (by simp); simpa using this) (hv v (by simp))
    have hw := setCell_wr (o := o + i) (v := v) h
    obtain ⟨w', c'', a1, a2, a3, a4⟩ := run_storeCells (b := b) (o := o) (el := el) (fr := fr) vs (i + 1) (c'.setIfInBounds (o + i) v) (w.setCell ⟨b, o + i, none⟩ v) hw.at_ (by simp at hs ⊢; omega)
      (fun k hk => by have := hf (k + 1) (by simp <;> omega); rwa [show o + i + (k + 1) = o + (i + 1) + k by omega] at this) (fun u hu => hv u (by simp [hu]))
    refine ⟨w', c'', ?_, ⟨a2.size.trans hw.size, a2.tape, a2.os, a2.output, fun x hx => (a2.same x hx).trans (hw.same x hx), a2.at_⟩, by simpa using a3, fun k => ?_⟩
    · simp only [storeCells, add_mk, Sem.run_bind, h1, Result.andThen_ok]
      exact a1
    · rw [a4]
      simp only [List.length_cons]
      by_cases hk : k = o + i
      · subst hk
        rw [if_neg (by omega), if_pos (by omega)]
        simp [hlt]
      · by_cases hr : o + (i + 1) ≤ k ∧ k < o + (i + 1) + vs.length
        · rw [if_pos hr, if_pos (by omega)]
          rw [show k - (o + i) = (k - (o + (i + 1))) + 1 by omega]
          simp
        · rw [if_neg hr, if_neg (by omega)]
          rw [Array.getElem?_setIfInBounds_ne (by omega)]

theorem oneCells {vs : List Value} {vs' : Array Value} (hr : LRel E vs vs') (ho : ∀ v ∈ vs, oneCell v = true) : ∀ v ∈ vs'.toList, v.oneCell' = true := by
  intro v hv
  obtain ⟨k, hk⟩ := List.getElem?_of_mem hv
  have hlen : vs'.toList.length = vs.length := by simpa using hr.size.symm
  have hklt : k < vs.length := by have := (List.getElem?_eq_some_iff.1 hk).1; omega
  obtain ⟨u', a, b⟩ := hr.getElem? (i := k) (v := vs[k]) (by simp [hklt])
  have hk' : vs'[k]? = some v := by simpa using hk
  rw [hk'] at a; cases a
  exact (oneCell_rel b (ho _ (List.getElem_mem _))).1
theorem onesOf {vs : List Value} {vs' : Array Value} (hr : LRel E vs vs') (ho : ∀ v ∈ vs, oneCell v = true) : Ones vs' := fun i v hv =>
  oneCells hr ho v (by have := Array.mem_of_getElem? hv; simpa using this)
theorem setRange_in {c vs : List Value} {off k : Nat} (hl : off + vs.length ≤ c.length) (hk : off ≤ k ∧ k < off + vs.length) : (setRange c off vs)[k]? = vs[k - off]? := by
  unfold setRange
  rw [List.append_assoc, List.getElem?_append_right (by simp <;> omega), List.getElem?_append_left (by simp <;> omega)]
  congr 1; simp <;> omega
theorem setRange_out {c vs : List Value} {off k : Nat} (hl : off + vs.length ≤ c.length) (hk : ¬(off ≤ k ∧ k < off + vs.length)) : (setRange c off vs)[k]? = c[k]? := by
  unfold setRange
  by_cases hk' : k < off
  · rw [List.append_assoc, List.getElem?_append_left (by simp <;> omega), List.getElem?_take_of_lt hk']
  · rw [List.getElem?_append_right (by simp <;> omega), List.getElem?_drop]
    congr 1; simp <;> omega
theorem setRange_length {c vs : List Value} {off : Nat} (hl : off + vs.length ≤ c.length) : (setRange c off vs).length = c.length := by simp [setRange]; omega

/-- a store of several cells into a block of the call's own -/
theorem Rel.storeCells (h : Rel w0 E H w) {i off : Nat} {c : List Value} {sz : Nat} (hi : H.get i = some (.cells c true sz)) {vs : List Value} {vs' : Array Value} (hr : LRel E vs vs') (ho : Ones vs')
    (hl : off + vs.length ≤ c.length) :
    ∃ w', (Go.storeCells ⟨E.b i, E.d i + off, none⟩ vs'.toList).run P w = .ok () w' ∧ Rel w0 E (H.set i (.cells (setRange c off vs) true sz)) w' := by
  obtain ⟨c', el, fr, h1, h2, h3, h4⟩ := h.cells hi (.inr rfl)
  obtain ⟨h5, h6⟩ := h3 rfl
  have hlen : vs'.toList.length = vs.length := by simpa using hr.size.symm
  obtain ⟨w', c'', a1, a2, a3, a4⟩ := run_storeCells (P := P) (b := E.b i) (o := E.d i + off) vs'.toList 0 c' w h1 (by omega)
    (fun k hk => by have := h6 (off + k) (by omega); rwa [show E.d i + off + 0 + k = E.d i + (off + k) by omega]) ho.mem
  refine ⟨w', a1, h.write hi rfl _ a2.size a2.tape a2.os a2.output a2.same ?_⟩
  have hlen2 := setRange_length hl
  refine .inr ⟨c'', el, fr, a2.at_, fun k v hv => ?_, fun _ => ⟨by omega, fun k hk => h6 k (by omega)⟩⟩
  rw [a4]
  by_cases hr2 : off ≤ k ∧ k < off + vs.length
  · rw [if_pos (by omega)]
    rw [setRange_in hl hr2] at hv
    obtain ⟨v', p, q⟩ := hr.getElem? hv
    refine ⟨v', ?_, q, ho _ _ p⟩
    rw [show E.d i + k - (E.d i + off + 0) = k - off by omega]
    simpa using p
  · rw [if_neg (by omega)]
    rw [setRange_out hl hr2] at hv
    exact h2 k v hv

theorem Rel.store1 (h : Rel w0 E H w) {i off : Nat} {c : List Value} {sz : Nat} (hi : H.get i = some (.cells c true sz)) {v v' : Value} (hr : VRel E v v') (ho : oneCell v = true) (hl : off < c.length) :
    ∃ w', (Go.store ⟨E.b i, E.d i + off, none⟩ v').run P w = .ok () w' ∧ Rel w0 E (H.set i (.cells (c.set off v) true sz)) w' := by
  obtain ⟨c', el, fr, h1, h2, h3, h4⟩ := h.cells hi (.inr rfl)
  obtain ⟨h5, h6⟩ := h3 rfl
  have hlt : E.d i + off < c'.size := by omega
  have hw := setCell_wr (o := E.d i + off) (v := v') h1
  refine ⟨_, run_store1 h1 hlt (h6 off (by omega)) (oneCell_rel hr ho).1, h.write hi rfl _ hw.size hw.tape hw.os hw.output hw.same ?_⟩
  refine .inr ⟨_, el, fr, hw.at_, fun k x hx => ?_, fun _ => ⟨by simpa using h5, fun k hk => h6 k (by simpa using hk)⟩⟩
  rw [List.getElem?_set] at hx
  split at hx
  · rename_i hk; subst hk
    cases hx
    exact ⟨v', by simp [hlt], hr, (oneCell_rel hr ho).1⟩
  · rename_i hk
    rw [Array.getElem?_setIfInBounds_ne (by omega)]
    exact h2 k x hx

/-- a new row of cells, some more behind it -/
theorem Rel.newCells (h : Rel w0 E H w) {cs : List Value} {cs' : Array Value} (hr : LRel E cs cs') (ho : Ones cs') (el : TypeId) (extra : Array Value) (σ sz : Nat) (hex : σ * sz ≤ extra.size) :
    ∃ w', (newRow el (cs' ++ extra)).run P w = .ok ⟨w.heap.size, 0, none⟩ w' ∧ Rel w0 (E.push w.heap.size 0 σ) (H.push (.cells cs true sz)) w' := by
  refine ⟨{ w with heap := w.heap.push (.cells (cs' ++ extra) el) }, by simp [newRow], h.alloc _ _ σ fun w' hw' => ?_⟩
  have hb : (E.push w.heap.size 0 σ).b H.size = w.heap.size := by simp [Env.push, h.n]
  have hd : (E.push w.heap.size 0 σ).d H.size = 0 := by simp [Env.push, h.n]
  have hs : (E.push w.heap.size 0 σ).s H.size = σ := by simp [Env.push, h.n]
  refine .inr ⟨cs' ++ extra, el, (0, 0), by rw [hb]; exact hw', fun k v hv => ?_, fun _ => ⟨by rw [hd, hs]; simp [← hr.size]; omega, fun k _ => by simp⟩⟩
  obtain ⟨v', a, b⟩ := hr.getElem? hv
  rw [hd, Nat.zero_add]
  have := (Array.getElem?_eq_some_iff.1 a).1
  exact ⟨v', by rw [Array.getElem?_append_left this]; exact a, b.mono (Ext.push _ _ _ _), ho _ _ a⟩
theorem VRel.newPtr (E : Env) (r σ : Nat) : VRel (E.push r 0 σ) (.pointer (some ⟨E.n, 0, none⟩)) (.pointer (some ⟨r, 0, none⟩)) := by
  have := VRel.ptr (E := E.push r 0 σ) E.n 0 (by simp [Env.push])
  simpa [Env.push] using this
theorem VRel.newSlice (E : Env) (r δ σ len cap : Nat) : VRel (E.push r δ σ) (.slice (some ⟨E.n, 0, none⟩) len cap) (.slice (some ⟨r, δ, none⟩) len (cap + σ)) := by
  have := VRel.slice (E := E.push r δ σ) E.n 0 len cap (by simp [Env.push])
  simpa [Env.push] using this
end mem
end Go.Abs
