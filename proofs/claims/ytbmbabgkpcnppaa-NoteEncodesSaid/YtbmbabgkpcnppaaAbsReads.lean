/- Arguments that read as data, as abstract memory. -/
import Derived.Test.YtbmbabgkpcnppaaAbsDraw3
import Derived.Deep.Slices
import Derived.OpenShut
set_option linter.all false
namespace Go.Abs
open Go Go.Deep

inductive Reads {DH : Type} (tt : Tab) (H : AHeap) : List TypeId → List Value → List (DataW DH) → Prop where
  | nil : Reads tt H [] [] []
  | bool {t : TypeId} {e : TE} {b : Bool} {ts vs ds} : tt[t]? = some e → e.d = .bool → Reads tt H ts vs ds → Reads tt H (t :: ts) (.bool b :: vs) (.lit (.bool b) :: ds)
  | int {t : TypeId} {e : TE} {k : IntKind} {n : Int} {ts vs ds} : tt[t]? = some e → e.d = .int k → k.min ≤ n → n ≤ k.max → Reads tt H ts vs ds → Reads tt H (t :: ts) (.int k n :: vs) (.lit (.int k n) :: ds)
  | string {t : TypeId} {e : TE} {s : ByteArray} {ts vs ds} : tt[t]? = some e → e.d = .string → s.size ≤ maxLen → Reads tt H ts vs ds → Reads tt H (t :: ts) (.string s :: vs) (.lit (.string s.data.toList) :: ds)
  | sliceNil {t : TypeId} {e : TE} {el : TypeId} {ts vs ds} : tt[t]? = some e → e.d = .slice el → Reads tt H ts vs ds → Reads tt H (t :: ts) (.slice none 0 0 :: vs) (.nil :: ds)
  | slice {t : TypeId} {e ee : TE} {el : TypeId} {i len cap : Nat} {c : List Value} {es sp : List (DataW DH)} {ts vs ds} : tt[t]? = some e → e.d = .slice el → tt[el]? = some ee → H.get i = some (.cells c false ee.size) → i < H.size → c.length = cap * ee.size →
      len ≤ cap → cap ≤ maxLen → es.length = len → sp.length = cap - len → Reads tt H (List.replicate cap el) c (es ++ sp) → Reads tt H ts vs ds → Reads tt H (t :: ts) (.slice (some ⟨i, 0, none⟩) len cap :: vs) (.slice es sp :: ds)
  | struct {t : TypeId} {e : TE} {fs : List (Nat × TypeId)} {part vs : List Value} {pd ts ds} : tt[t]? = some e → e.d = .struct fs → part.length = e.size → Reads tt H (fs.map (·.2)) part pd → Reads tt H ts vs ds → Reads tt H (t :: ts) (part ++ vs) (.agg pd :: ds)
  | arr {t : TypeId} {e : TE} {n : Nat} {el : TypeId} {part vs : List Value} {pd ts ds} : tt[t]? = some e → e.d = .arr n el → part.length = e.size → Reads tt H (List.replicate n el) part pd → Reads tt H ts vs ds → Reads tt H (t :: ts) (part ++ vs) (.agg pd :: ds)

section
variable {DH : Type} {enc : TypeId × Value → DH} {tt : Tab} {H : AHeap}
theorem Reads.mono {H' : AHeap} (hle : H.le H') {ts : List TypeId} {vs : List Value} {ds : List (DataW DH)} (h : Reads tt H ts vs ds) : Reads tt H' ts vs ds := by
  induction h with
  | nil => exact .nil
  | bool h1 h2 _ ih => exact .bool h1 h2 ih
  | int h1 h2 h3 h4 _ ih => exact .int h1 h2 h3 h4 ih
  | string h1 h2 h3 _ ih => exact .string h1 h2 h3 ih
  | sliceNil h1 h2 _ ih => exact .sliceNil h1 h2 ih
  | slice h1 h2 h3 h4 h5 h6 h7 h8 h9 h10 _ _ ih1 ih2 => exact .slice h1 h2 h3 ((hle.get _ h5).trans h4) (Nat.lt_of_lt_of_le h5 hle.size) h6 h7 h8 h9 h10 ih1 ih2
  | struct h1 h2 h3 _ _ ih1 ih2 => exact .struct h1 h2 h3 ih1 ih2
  | arr h1 h2 h3 _ _ ih1 ih2 => exact .arr h1 h2 h3 ih1 ih2
theorem Reads.append {ts ts' : List TypeId} {vs vs' : List Value} {ds ds' : List (DataW DH)} (h : Reads tt H ts vs ds) (g : Reads tt H ts' vs' ds') : Reads tt H (ts ++ ts') (vs ++ vs') (ds ++ ds') := by
  induction h with
  | nil => exact g
  | bool h1 h2 _ ih => exact .bool h1 h2 ih
  | int h1 h2 h3 h4 _ ih => exact .int h1 h2 h3 h4 ih
  | string h1 h2 h3 _ ih => exact .string h1 h2 h3 ih
  | sliceNil h1 h2 _ ih => exact .sliceNil h1 h2 ih
  | slice h1 h2 h3 h4 h5 h6 h7 h8 h9 h10 r1 _ _ ih2 => exact .slice h1 h2 h3 h4 h5 h6 h7 h8 h9 h10 r1 ih2
  | struct h1 h2 h3 r1 _ _ ih2 => rw [List.append_assoc]; exact .struct h1 h2 h3 r1 ih2
  | arr h1 h2 h3 r1 _ _ ih2 => rw [List.append_assoc]; exact .arr h1 h2 h3 r1 ih2

/-- a struct's fields lie one behind the other -/
def tiles (tt : Tab) : List (Nat × TypeId) → Nat → Nat → Bool
  | [], at_, size => Nat.beq at_ size
  | (o, t) :: fs, at_, size => Nat.beq o at_ && (match tt[t]? with | some e => tiles tt fs (at_ + e.size) size | none => false)
/-- types whose values are read whole -/
def dataTy (tt : Tab) : Nat → TypeId → Bool
  | 0, _ => false
  | n + 1, t => match tt[t]? with
    | none => false
    | some e => match e.d with
      | .bool | .int _ | .string => Nat.beq e.size 1
      | .slice el => Nat.beq e.size 1 && dataTy tt n el && (match tt[el]? with | some ee => !Nat.beq ee.size 0 | none => false)
      | .struct fs => tiles tt fs 0 e.size && fs.all fun f => dataTy tt n f.2
      | .arr k el => dataTy tt n el && (match tt[el]? with | some ee => Nat.beq (k * ee.size) e.size | none => false)
      | _ => false

/-- a block that is not the call's own is described -/
theorem Rel.pushOld {E : Env} {H : AHeap} {w : World} (h : Rel w E H w) (r δ σ : Nat) (o : AObj) (hr : r < w.heap.size) (hown : o.own = false)
    (ho : ORel (E.push r δ σ) w H.size o) : Rel w (E.push r δ σ) (H.push o) w where
  n := by simp [Env.push, h.n]
  size := h.size
  old := h.old
  tape := h.tape
  os := h.os
  output := h.output
  obj i o' hi := by
    by_cases hie : i = H.size
    · subst hie
      rw [AHeap.push_new] at hi
      cases hi
      refine ⟨by simp, ?_, ho⟩
      show (if H.size = E.n then r else E.b H.size) < _
      rw [if_pos h.n.symm]; exact hr
    · rw [AHeap.push_ne H o hie] at hi
      obtain ⟨a, b, c⟩ := h.obj i o' hi
      have hlt : i < E.n := h.n ▸ a
      have hb : (E.push r δ σ).b i = E.b i := (Ext.push E r δ σ).b i hlt
      exact ⟨Nat.lt_succ_of_lt a, by rw [hb]; exact b, c.mono (Ext.push E r δ σ) hlt rfl⟩
  own i o' hi hown' := by
    by_cases hie : i = H.size
    · subst hie
      rw [AHeap.push_new] at hi
      cases hi
      rw [hown] at hown'
      exact absurd hown' (by simp)
    · rw [AHeap.push_ne H o hie] at hi
      exact absurd (h.obj i o' hi).2.1 (Nat.not_lt.2 (h.own i o' hi hown').1)

/-- what reading gives in abstract memory -/
def Refl (tt : Tab) (w : World) (E : Env) (H : AHeap) (ts : List TypeId) (cs : List Value) (ds : List (DataW DH)) : Prop :=
  ∃ E' H' acs, Ext E E' ∧ H.le H' ∧ Rel w E' H' w ∧ LRel E' acs cs.toArray ∧ (∀ v ∈ cs, v.oneCell' = true) ∧ Reads tt H' ts acs ds

theorem lrel_append {E : Env} {a b a' b' : List Value} (h : LRel E a a'.toArray) (g : LRel E b b'.toArray) : LRel E (a ++ b) (a' ++ b').toArray := by
  have := h.append g
  simpa using this
theorem lrel_len {E : Env} {a b : List Value} (h : LRel E a b.toArray) : a.length = b.length := by simpa using h.size

/-- a row of readings -/
theorem refl_row {P : Program} {w : World} {m : Nat} (one : ∀ (t : TypeId) (cs : List Value) (d : DataW DH) (ps : List MemPlace) (E : Env) (H : AHeap), dataTy tt m t = true → (∃ fuel, DataW.trod enc P w 0 (fun _ => true) true fuel t cs = some (d, ps)) → Rel w E H w → Refl tt w E H [t] cs [d]) :
    ∀ (ts : List TypeId) (css : List (List Value)) (ds : List (DataW DH)) (E : Env) (H : AHeap), css.length = ts.length → ds.length = ts.length → (∀ t ∈ ts, dataTy tt m t = true) →
      (∀ (i : Nat) t cs d, ts[i]? = some t → css[i]? = some cs → ds[i]? = some d → ∃ fuel ps, DataW.trod enc P w 0 (fun _ => true) true fuel t cs = some (d, ps)) → Rel w E H w → Refl tt w E H ts css.flatten ds
  | [], css, ds, E, H, h1, h2, _, _, hR => by
    have e1 : css = [] := List.length_eq_zero_iff.1 h1
    have e2 : ds = [] := List.length_eq_zero_iff.1 h2
    subst e1 e2
    exact ⟨E, H, [], Ext.refl E, AHeap.le.refl H, hR, by simpa using LRel.nil E, by simp, .nil⟩
  | t :: ts, [], _, _, _, h1, _, _, _, _ => by simp at h1
  | t :: ts, _ :: _, [], _, _, _, h2, _, _, _ => by simp at h2
  | t :: ts, cs :: css, d :: ds, E, H, h1, h2, h3, h4, hR => by
    obtain ⟨fuel, ps, h5⟩ := h4 0 t cs d rfl rfl rfl
    obtain ⟨E1, H1, a1, x1, x2, x3, x4, x5, x6⟩ := one t cs d ps E H (h3 t (by simp)) ⟨fuel, h5⟩ hR
    obtain ⟨E2, H2, a2, y1, y2, y3, y4, y5, y6⟩ := refl_row one ts css ds E1 H1 (by simpa using h1) (by simpa using h2) (fun t ht => h3 t (by simp [ht])) (fun i t cs d g1 g2 g3 => h4 (i + 1) t cs d (by simpa using g1) (by simpa using g2) (by simpa using g3)) x3
    refine ⟨E2, H2, a1 ++ a2, x1.trans y1, x2.trans y2, y3, ?_, ?_, (x6.mono y2).append y6⟩
    · simpa using lrel_append (x4.mono y1) y4
    · intro v hv
      simp only [List.flatten_cons, List.mem_append] at hv
      rcases hv with hv | hv
      · exact x5 v hv
      · exact y5 v hv

theorem flatten_get {css : List (List Value)} {s : Nat} (h : ∀ cs ∈ css, cs.length = s) : ∀ (k : Nat) v, css.flatten[k]? = some v → ∃ i j cs, k = i * s + j ∧ j < s ∧ css[i]? = some cs ∧ cs[j]? = some v := by
  induction css with
  | nil => intro k v hv; simp at hv
  | cons c css ih =>
    intro k v hv
    simp only [List.flatten_cons] at hv
    have hc : c.length = s := h c (by simp)
    rw [List.getElem?_append] at hv
    split at hv
    · rename_i hlt; exact ⟨0, k, c, by simp, hc ▸ hlt, rfl, hv⟩
    · rename_i hlt
      obtain ⟨i, j, cs, e1, e2, e3, e4⟩ := ih (fun cs hcs => h cs (by simp [hcs])) _ v hv
      refine ⟨i + 1, j, cs, ?_, e2, by simpa using e3, e4⟩
      rw [Nat.add_mul, Nat.one_mul]
      omega
theorem flatten_len {css : List (List Value)} {s : Nat} (h : ∀ cs ∈ css, cs.length = s) : css.flatten.length = css.length * s := by
  induction css with
  | nil => simp
  | cons c css ih => simp only [List.flatten_cons, List.length_append, List.length_cons, h c (by simp), ih (fun cs hcs => h cs (by simp [hcs]))]; rw [Nat.add_mul, Nat.one_mul]; omega
theorem tiles_split : ∀ (fs : List (Nat × TypeId)) (at_ size : Nat) (cs : List Value), tiles tt fs at_ size = true → cs.length = size → at_ ≤ size →
    (fs.map fun f => (cs.drop f.1).take ((tt[f.2]?.map (·.size)).getD 0)).flatten = cs.drop at_
  | [], at_, size, cs, h, hl, _ => by
    have := Nat.eq_of_beq_eq_true h
    subst this
    simp [← hl]
  | (o, t) :: fs, at_, size, cs, h, hl, ha => by
    simp only [tiles, Bool.and_eq_true] at h
    obtain ⟨h1, h2⟩ := h
    have h1 := Nat.eq_of_beq_eq_true h1
    subst h1
    cases ht : tt[t]? with
    | none => rw [ht] at h2; exact absurd h2 (by simp)
    | some e =>
      rw [ht] at h2
      simp only at h2
      have hle : o + e.size ≤ size := by
        clear hl
        have : ∀ (fs : List (Nat × TypeId)) (a s : Nat), tiles tt fs a s = true → a ≤ s := by
          intro fs
          induction fs with
          | nil => intro a s h; exact Nat.le_of_eq (Nat.eq_of_beq_eq_true h)
          | cons f fs ih =>
            intro a s h
            obtain ⟨o, t⟩ := f
            simp only [tiles, Bool.and_eq_true] at h
            cases ht : tt[t]? with
            | none => rw [ht] at h; exact absurd h.2 (by simp)
            | some e => rw [ht] at h; have := ih _ _ h.2; omega
        exact this _ _ _ h2
      have := tiles_split fs (o + e.size) size cs h2 hl hle
      simp only [List.map_cons, List.flatten_cons, this, ht, Option.map_some, Option.getD_some]
      rw [← List.drop_drop, List.take_append_drop]


theorem cellsOf_tt {P : Program} (hT : TyOk P tt) {t : TypeId} {e : TE} (he : tt[t]? = some e) (hd : e.d ≠ .other) : P.cellsOf t = e.size := by
  obtain ⟨i, h1, h2, _⟩ := (hT t e he hd).info
  simp [Program.cellsOf, h1, h2]
theorem dataTy_ne {n : Nat} {t : TypeId} (h : dataTy tt n t = true) : ∃ e, tt[t]? = some e ∧ e.d ≠ .other := by
  cases n with
  | zero => simp [dataTy] at h
  | succ n =>
    unfold dataTy at h
    split at h
    · exact absurd h (by simp)
    · rename_i e he
      refine ⟨e, he, fun hd => ?_⟩
      rw [hd] at h
      exact absurd h (by simp)

/-- what reads as data is there, in abstract memory -/
theorem reflect {P : Program} (hT : TyOk P tt) {w : World} (h0 : 0 < w.heap.size) : ∀ (m : Nat) (t : TypeId) (cs : List Value) (d : DataW DH) (ps : List MemPlace) (E : Env) (H : AHeap), dataTy tt m t = true →
    (∃ fuel, DataW.trod enc P w 0 (fun _ => true) true fuel t cs = some (d, ps)) → Rel w E H w → Refl tt w E H [t] cs [d]
  | 0, _, _, _, _, _, _, h, _, _ => by simp [dataTy] at h
  | m + 1, t, cs, d, ps, E, H, hd, ⟨fuel, h⟩, hR => by
    have ih := reflect (P := P) hT h0 m
    obtain ⟨e, he, hne⟩ := dataTy_ne hd
    obtain ⟨_, ⟨td, hu, hdk⟩, _, _, _⟩ := hT t e he hne
    have hcell := cellsOf_tt (P := P) hT he hne
    unfold dataTy at hd
    rw [he] at hd
    simp only at hd
    cases hed : e.d <;> rw [hed] at hd <;> simp only at hd <;> rw [hed] at hdk <;> simp only [DOk] at hdk <;> try (exact Bool.noConfusion hd)
    case bool =>
      subst hdk
      obtain ⟨b, rfl, hx⟩ := DataW.trod_bool hu h
      cases hx
      exact ⟨E, H, [.bool b], Ext.refl E, AHeap.le.refl H, hR, LRel.cons (.bool b) (LRel.nil E), by simp [Value.oneCell'], .bool he hed .nil⟩
    case int k =>
      subst hdk
      obtain ⟨n, rfl, hx, hw⟩ := DataW.trod_int hu h
      cases hx
      simp only [Lit.wf, Bool.and_eq_true, decide_eq_true_eq] at hw
      exact ⟨E, H, [.int k n], Ext.refl E, AHeap.le.refl H, hR, LRel.cons (.int k n) (LRel.nil E), by simp [Value.oneCell'], .int he hed hw.1 hw.2 .nil⟩
    case string =>
      subst hdk
      obtain ⟨s, rfl, hx, hs⟩ := DataW.trod_string hu h
      cases hx
      exact ⟨E, H, [.string s], Ext.refl E, AHeap.le.refl H, hR, LRel.cons (.string s) (LRel.nil E), by simp [Value.oneCell'], .string he hed hs .nil⟩
    case slice el =>
      subst hdk
      simp only [Bool.and_eq_true] at hd
      obtain ⟨⟨_, hel⟩, hsz⟩ := hd
      obtain ⟨ee, hee, hnee⟩ := dataTy_ne hel
      rw [hee] at hsz
      have hpos : 0 < ee.size := by
        rcases Nat.eq_zero_or_pos ee.size with h | h
        · simp [h] at hsz
        · exact h
      have hcel := cellsOf_tt (P := P) hT hee hnee
      rcases open_slice hu h with ⟨rfl, hx⟩ | ⟨a, len, cap, m', n, D, Pl, rfl, _, hl, hm, hmm, hx, hrow⟩
      · cases hx
        exact ⟨E, H, [.slice none 0 0], Ext.refl E, AHeap.le.refl H, hR, LRel.cons .sliceNil (LRel.nil E), by simp [Value.oneCell'], .sliceNil he hed .nil⟩
      · cases hx
        simp only [if_true] at hmm
        subst hmm
        -- the elements' cells
        have hex : ∃ css : List (List Value), css.length = m' ∧ ∀ (i : Nat) cs, css[i]? = some cs → w.cells? 0 (a.add (i * ee.size)) ee.size = some cs ∧ DataW.trod enc P w 0 (fun _ => true) true n el cs = some (D i, Pl i) := by
          obtain ⟨f, hf⟩ := choose_lt (α := List Value) (p := fun i cs => w.cells? 0 (a.add (i * ee.size)) ee.size = some cs ∧ DataW.trod enc P w 0 (fun _ => true) true n el cs = some (D i, Pl i)) (n := m') (fun i hi => by
            obtain ⟨cs', h1, h2⟩ := hrow i hi
            rw [hcel] at h1
            exact ⟨cs', h1, h2⟩)
          refine ⟨(List.range m').map f, by simp, fun i cs hi => ?_⟩
          rw [List.getElem?_map] at hi
          cases hr : (List.range m')[i]? with
          | none => rw [hr] at hi; simp at hi
          | some j =>
            rw [hr] at hi
            simp at hi
            obtain ⟨hlt, hj⟩ := List.getElem?_eq_some_iff.1 hr
            simp at hj hlt
            subst hj
            subst hi
            exact hf i hlt
        obtain ⟨css, hlen, hcss⟩ := hex
        have hlens : ∀ cs ∈ css, cs.length = ee.size := by
          intro cs hcs
          obtain ⟨i, hi⟩ := List.mem_iff_getElem?.1 hcs
          exact (World.cells?_some (hcss i cs hi).1).2.1
        obtain ⟨E1, H1, ac, x1, x2, x3, x4, x5, x6⟩ := refl_row (P := P) ih (List.replicate m' el) css ((List.range m').map D) E H (by simp [hlen]) (by simp) (fun t ht => by rw [(List.mem_replicate.1 ht).2]; exact hel)
          (fun i t cs d g1 g2 g3 => by
            have ht : t = el := by
              rw [List.getElem?_replicate] at g1
              split at g1
              · exact (Option.some.inj g1).symm
              · exact absurd g1 (by simp)
            subst ht
            have hi : i < m' := by rw [← hlen]; exact (List.getElem?_eq_some_iff.1 g2).1
            have hd' : d = D i := by simp [hi] at g3; exact g3.symm
            subst hd'
            exact ⟨n, Pl i, (hcss i cs g2).2⟩) hR
        have hacl : ac.length = m' * ee.size := by rw [lrel_len x4, flatten_len hlens, hlen]
        -- the block
        have hn : E1.n = H1.size := x3.n
        have hblk : ∃ b δ, b < w.heap.size ∧ (0 < m' → a = ⟨b, δ, none⟩) ∧ ORel (E1.push b δ 0) w H1.size (.cells ac false ee.size) := by
          rcases Nat.eq_zero_or_pos m' with hz | hz
          · refine ⟨0, 0, h0, fun h => absurd h (by omega), .inl ⟨List.length_eq_zero_iff.1 (by rw [hacl, hz, Nat.zero_mul]), rfl⟩⟩
          · have hget : ∀ (i : Nat) cs (j : Nat) v, css[i]? = some cs → cs[j]? = some v → w.cell? (a.add (i * ee.size + j)) = some v := by
              intro i cs j v hi hj
              have hcl := hlens cs (List.mem_of_getElem? hi)
              obtain ⟨_, _, hc⟩ := World.cells?_some (hcss i cs hi).1
              have hjl : j < ee.size := hcl ▸ (List.getElem?_eq_some_iff.1 hj).1
              rw [← add_add, hc j hjl, hj]
            obtain ⟨cs0, hc0⟩ : ∃ cs0, css[0]? = some cs0 := ⟨css[0]'(by omega), by simp⟩
            obtain ⟨v0, hv0⟩ : ∃ v0, cs0[0]? = some v0 := by
              have := hlens cs0 (List.mem_of_getElem? hc0)
              exact ⟨cs0[0]'(by omega), by simp⟩
            have hcell0 := hget 0 cs0 0 v0 hc0 hv0
            obtain ⟨b, off, spot⟩ := a
            simp only [Nat.zero_mul, Nat.zero_add, Addr.add, if_true, World.cell?] at hcell0
            split at hcell0
            · rename_i c' el' fr hb
              split at hcell0
              · exact absurd hcell0 (by simp)
              · rename_i hsp
                have hsp : spot = none := by cases spot <;> simp_all
                subst hsp
                have hcs : ∀ (k : Nat) v, css.flatten[k]? = some v → c'[off + k]? = some v := by
                  intro k v hv
                  obtain ⟨i, j, cs, e1, e2, e3, e4⟩ := flatten_get hlens k v hv
                  have := hget i cs j v e3 e4
                  rw [← e1] at this
                  unfold World.cell? at this
                  have hadd : (Addr.add ⟨b, off, none⟩ k) = ⟨b, off + k, none⟩ := by
                    unfold Addr.add; split
                    · rename_i hk; subst hk; rfl
                    · rfl
                  rw [hadd] at this
                  simp only [hb] at this
                  simpa using this
                refine ⟨b, off, (Array.getElem?_eq_some_iff.1 hb).1, fun _ => rfl, .inr ⟨c', el', fr, by simpa [Env.push, hn] using hb, fun k v hv => ?_, fun h => absurd h (by simp)⟩⟩
                obtain ⟨v', g1, g2⟩ := x4.getElem? hv
                have g1' : css.flatten[k]? = some v' := by simpa using g1
                exact ⟨v', by simpa [Env.push, hn] using hcs k v' g1', g2.mono (Ext.push _ _ _ _), x5 v' (List.mem_of_getElem? g1')⟩
            · exact absurd hcell0 (by simp)
        obtain ⟨b, δ, hbs, ha, ho⟩ := hblk
        have hR2 : Rel w (E1.push b δ 0) (H1.push (.cells ac false ee.size)) w := x3.pushOld b δ 0 _ hbs (by rfl) ho
        refine ⟨_, _, [.slice (some ⟨H1.size, 0, none⟩) len m'], x1.trans (Ext.push _ _ _ _), x2.trans (AHeap.le_push _ _), hR2, ?_, by simp [Value.oneCell'], ?_⟩
        · refine LRel.cons ?_ (LRel.nil _)
          rcases Nat.eq_zero_or_pos m' with hz | hz
          · have hlz : len = 0 := by omega
            subst hz hlz
            exact .slice0 _ _ _ (by simp [Env.push, hn]) (by simp [Env.push, hn])
          · rw [ha hz]
            have := VRel.slice (E := E1.push b δ 0) H1.size 0 len m' (by simp [Env.push, hn])
            simpa [Env.push, hn] using this
        · refine .slice (ee := ee) he hed hee (AHeap.push_new _ _) (by simp) hacl hl hm (by simp) (by simp) ?_ .nil
          have := x6.mono (AHeap.le_push H1 (.cells ac false ee.size))
          rwa [range_split hl, List.map_append, List.map_map] at this
    case struct fs =>
      obtain ⟨gs, rfl, hfl, hfs⟩ := hdk
      simp only [Bool.and_eq_true, List.all_eq_true] at hd
      obtain ⟨htl, hdt⟩ := hd
      obtain ⟨xs, n, rfl, hx, hcl, hxl, hg⟩ := DataW.trod_struct hu h
      cases hx
      rw [hcell] at hcl
      have hsplit := tiles_split (tt := tt) fs 0 e.size cs htl hcl (Nat.zero_le _)
      rw [List.drop_zero] at hsplit
      obtain ⟨E1, H1, ac, x1, x2, x3, x4, x5, x6⟩ := refl_row (P := P) ih (fs.map (·.2)) (fs.map fun f => (cs.drop f.1).take ((tt[f.2]?.map (·.size)).getD 0)) (xs.map (·.1)) E H (by simp) (by simp [hxl, hfl])
        (fun t ht => by obtain ⟨f, hf, rfl⟩ := List.mem_map.1 ht; exact hdt f hf)
        (fun i t cs' d g1 g2 g3 => by
          rw [List.getElem?_map] at g1 g2
          cases hfi : fs[i]? with
          | none => rw [hfi] at g1; simp at g1
          | some f =>
            rw [hfi] at g1 g2
            obtain ⟨o, tf⟩ := f
            simp only [Option.map_some, Option.some.injEq] at g1 g2
            subst g1 g2
            obtain ⟨g, hgi, ho, htf⟩ := hfs i o tf hfi
            have := hg i g hgi
            rw [ho, htf] at this
            obtain ⟨ef, hef, hnef⟩ := dataTy_ne (hdt (o, tf) (List.mem_of_getElem? hfi))
            rw [cellsOf_tt (P := P) hT hef hnef] at this
            rw [List.getElem?_map] at g3
            cases hxi : xs[i]? with
            | none => rw [hxi] at g3; simp at g3
            | some x =>
              rw [hxi] at g3 this
              simp at g3
              refine ⟨n, x.2, ?_⟩
              simp only [hef, Option.map_some, Option.getD_some]
              rw [this, ← g3]) hR
      rw [hsplit] at x4 x5
      refine ⟨E1, H1, ac, x1, x2, x3, x4, x5, ?_⟩
      have := Reads.struct (tt := tt) (H := H1) (t := t) he hed (by rw [lrel_len x4, hcl]) x6 .nil
      simpa using this
    case arr k el =>
      subst hdk
      simp only [Bool.and_eq_true] at hd
      obtain ⟨hel, hsz⟩ := hd
      obtain ⟨ee, hee, hnee⟩ := dataTy_ne hel
      rw [hee] at hsz
      have hsz := Nat.eq_of_beq_eq_true hsz
      have hcel := cellsOf_tt (P := P) hT hee hnee
      obtain ⟨xs, n, rfl, hx, hcl, hxl, hg⟩ := DataW.trod_array hu h
      cases hx
      rw [hcell] at hcl
      rw [hcel] at hg
      have hlens : ∀ c ∈ (List.range k).map (fun i => (cs.drop (i * ee.size)).take ee.size), c.length = ee.size := by
        intro c hc
        obtain ⟨i, hi, rfl⟩ := List.mem_map.1 hc
        have hi : i < k := by simpa using hi
        have : (i + 1) * ee.size ≤ k * ee.size := Nat.mul_le_mul_right _ hi
        rw [Nat.add_mul, Nat.one_mul] at this
        simp only [List.length_take, List.length_drop]
        omega
      have hsplit : ((List.range k).map (fun i => (cs.drop (i * ee.size)).take ee.size)).flatten = cs := by
        apply List.ext_getElem?
        intro j
        by_cases hj : j < cs.length
        · have hfl := flatten_len hlens
          have hjl : j < (((List.range k).map (fun i => (cs.drop (i * ee.size)).take ee.size)).flatten).length := by rw [hfl]; simp; omega
          rw [List.getElem?_eq_getElem hjl]
          obtain ⟨i, jj, c, e1, e2, e3, e4⟩ := flatten_get hlens j _ (List.getElem?_eq_getElem hjl)
          rw [← e4]
          rw [List.getElem?_map] at e3
          cases hr : (List.range k)[i]? with
          | none => rw [hr] at e3; simp at e3
          | some i' =>
            rw [hr] at e3
            obtain ⟨hlt, hj'⟩ := List.getElem?_eq_some_iff.1 hr
            simp at hj'
            subst hj'
            simp at e3
            subst e3
            rw [List.getElem?_take]
            simp [e2, e1]
        · have hfl := flatten_len hlens
          rw [List.length_map, List.length_range] at hfl
          rw [List.getElem?_eq_none (Nat.le_of_not_lt hj), List.getElem?_eq_none (by rw [hfl, hsz]; omega)]
      obtain ⟨E1, H1, ac, x1, x2, x3, x4, x5, x6⟩ := refl_row (P := P) ih (List.replicate k el) ((List.range k).map (fun i => (cs.drop (i * ee.size)).take ee.size)) (xs.map (·.1)) E H (by simp) (by simp [hxl])
        (fun t ht => by rw [(List.mem_replicate.1 ht).2]; exact hel)
        (fun i t c d g1 g2 g3 => by
          have ht : t = el := by
            rw [List.getElem?_replicate] at g1
            split at g1
            · exact (Option.some.inj g1).symm
            · exact absurd g1 (by simp)
          subst ht
          have hi : i < k := by simpa using (List.getElem?_eq_some_iff.1 g2).1
          have hc : c = (cs.drop (i * ee.size)).take ee.size := by simp [hi] at g2; exact g2.symm
          subst hc
          have := hg i hi
          rw [List.getElem?_map] at g3
          cases hxi : xs[i]? with
          | none => rw [hxi] at g3; simp at g3
          | some x => rw [hxi] at g3 this; simp at g3; exact ⟨n, x.2, by rw [this, ← g3]⟩) hR
      rw [hsplit] at x4 x5
      refine ⟨E1, H1, ac, x1, x2, x3, x4, x5, ?_⟩
      have := Reads.arr (tt := tt) (H := H1) (t := t) he hed (by rw [lrel_len x4, hcl]) x6 .nil
      simpa using this
end
end Go.Abs
