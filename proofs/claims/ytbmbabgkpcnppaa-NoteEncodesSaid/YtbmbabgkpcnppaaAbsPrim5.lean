/- Soundness of the whole table of operations. -/
import Derived.Test.YtbmbabgkpcnppaaAbsPrim4
set_option linter.all false
namespace Go.Abs
open Go

def OutU (P : Program) (w0 : World) (E : Env) (s : Sem Unit) (w : World) (k : AHeap → Prop) : Prop :=
  ∃ H' w', k H' ∧ s.run P w = .ok () w' ∧ Rel w0 E H' w'
theorem OutU.out {P : Program} {w0 : World} {E : Env} {s : Sem Unit} {w : World} {k : Value → AHeap → Prop} (h : OutU P w0 E s w (k undef)) :
    Outc P w0 E (s >>= fun _ => Pure.pure Next.skip) w k := by
  obtain ⟨H', w', h1, h2, h3⟩ := h
  exact ⟨undef, H', E, undef, w', h1, .inr ⟨by simp [h2], rfl⟩, Ext.refl E, h3, .any _⟩

section
variable {P : Program} {tt : Tab} {w0 : World} {E : Env} {H : AHeap} {w : World} {k : Value → AHeap → Prop} {t : List Value} {t' : Array Value}

theorem Rel.newCells0 (h : Rel w0 E H w) {cs : List Value} {cs' : Array Value} (hr : LRel E cs cs') (ho : Ones cs') (el : TypeId) (sz : Nat) :
    ∃ w', (newRow el cs').run P w = .ok ⟨w.heap.size, 0, none⟩ w' ∧ Rel w0 (E.push w.heap.size 0 0) (H.push (.cells cs true sz)) w' := by
  have := h.newCells (P := P) hr ho el #[] 0 sz (by simp)
  simpa using this

theorem newVar_out (h : Rel w0 E H w) {cs : List Value} {v' : Value} (hr : LRel E cs v'.cells) (ho : Ones v'.cells) (el : TypeId) (sz : Nat)
    (hk : k (.pointer (some ⟨H.size, 0, none⟩)) (H.push (.cells cs true sz))) : OutV P w0 E (newVar el v' >>= fun a => Pure.pure (.pointer (some a))) w k := by
  obtain ⟨w', h1, h2⟩ := h.newCells0 (P := P) hr ho el sz
  refine ⟨_, _, _, .pointer (some ⟨w.heap.size, 0, none⟩), w', hk, by simp [newVar, h1], Ext.push _ _ _ _, h2, ?_⟩
  have := VRel.newPtr E w.heap.size 0
  rw [h.n] at this
  exact this
theorem newSlice_out (h : Rel w0 E H w) {cs : List Value} {cs' : Array Value} (hr : LRel E cs cs') (ho : Ones cs') (el : TypeId) (sz len cap : Nat)
    (hk : k (.slice (some ⟨H.size, 0, none⟩) len cap) (H.push (.cells cs true sz))) : OutV P w0 E (newRow el cs' >>= fun a => Pure.pure (.slice (some a) len cap)) w k := by
  obtain ⟨w', h1, h2⟩ := h.newCells0 (P := P) hr ho el sz
  refine ⟨_, _, _, .slice (some ⟨w.heap.size, 0, none⟩) len cap, w', hk, by simp [h1], Ext.push _ _ _ _, h2, ?_⟩
  have := VRel.newSlice E w.heap.size 0 0 len cap
  rw [h.n] at this
  exact this

theorem readK_elim (hT : TyOk P tt) (h : Rel w0 E H w) {ty : Nat} {te : TE} (hty : tt[ty]? = some te) (hd : te.d ≠ .other) {i off : Nat} {k : Value → Prop} (hk : readK te H i off k) :
    ∃ v v', k v ∧ (loadVar ty ⟨E.b i, E.d i + off, none⟩).run P w = .ok v' w ∧ VRel E v v' := by
  unfold readK at hk
  have ha := run_isAgg (w := w) hT hty hd
  split at hk
  · rename_i hagg
    obtain ⟨c, own, sz, h1, h2, h3⟩ := loadsK_elim hk
    obtain ⟨vs', p, q, _⟩ := run_loadCells_of (P := P) h h1 h2
    refine ⟨_, .agg vs', h3, ?_, ?_⟩
    · simp [loadVar, ha, hagg, run_sizeOf hT hty hd, p]
    · have := q.toArray; exact .agg _ _ this.size this.get
  · rename_i hagg
    obtain ⟨c, own, sz, v, h1, h2, h3⟩ := loadK_elim hk
    obtain ⟨v', p, q⟩ := run_load_of (P := P) h h1 h2
    refine ⟨_, v', h3, ?_, q⟩
    unfold loadVar
    simp only [Sem.run_bind, ha, Result.andThen_ok, hagg, Bool.false_eq_true, if_false]
    exact p
theorem readK_sound (hT : TyOk P tt) (h : Rel w0 E H w) {ty : Nat} {te : TE} (hty : tt[ty]? = some te) (hd : te.d ≠ .other) {i off : Nat} (hk : readK te H i off fun v => k v H) :
    OutV P w0 E (loadVar ty ⟨E.b i, E.d i + off, none⟩) w k := by
  obtain ⟨v, v', h1, h2, h3⟩ := readK_elim hT h hty hd hk
  exact OutV.of h h1 h2 h3

theorem writeK_sound (hT : TyOk P tt) (h : Rel w0 E H w) {ty : Nat} {te : TE} (hty : tt[ty]? = some te) (hd : te.d ≠ .other) {i off : Nat} {u u' : Value} (hu : VRel E u u') {k : AHeap → Prop} (hk : writeK te H i off u k) :
    OutU P w0 E (storeVar ty ⟨E.b i, E.d i + off, none⟩ u') w k := by
  unfold writeK at hk
  have hsz := run_sizeOf (w := w) hT hty hd
  split at hk
  · obtain ⟨_, h1, h2⟩ := bothK_elim hk
    obtain ⟨h3, h4⟩ := reqK_elim h2
    obtain ⟨c, sz, h5, h6, h7⟩ := storesK_elim h4
    cases hu with
    | agg fs fs' g1 g3 =>
      have hl := ARel.toList (E := E) ⟨g1, g3⟩
      obtain ⟨w', p, q⟩ := h.storeCells (P := P) h5 hl (onesOf hl (all_one h3)) h6
      have he : fs'.size = te.size := by rw [← hl.size]; exact Nat.eq_of_beq_eq_true h1
      exact ⟨_, w', h7, by simp [storeVar, hsz, Value.cells, he]; exact p, q⟩
  · exact hk.elim
  · exact hk.elim
  · rename_i hn1 hn2 hn3
    obtain ⟨_, h1, h2⟩ := bothK_elim hk
    obtain ⟨c, sz, h5, h6, h7⟩ := storeK_elim h2
    have ho : oneCell u = true := by
      cases u <;> first | rfl | (exact absurd rfl (hn1 _)) | (exact absurd rfl (hn2 _)) | (exact absurd rfl (hn3 _ _ _))
    obtain ⟨a, b, c'⟩ := oneCell_rel hu ho
    obtain ⟨w', p, q⟩ := h.store1 (P := P) h5 hu ho h6
    have he : te.size = 1 := Nat.eq_of_beq_eq_true h1
    exact ⟨_, w', h7, by simp [storeVar, hsz, c', he, storeCells, add_mk, p], q⟩

theorem partK_sound (hT : TyOk P tt) (h : Rel w0 E H w) {ty : Nat} {te : TE} (hty : tt[ty]? = some te) (hd : te.d ≠ .other) {cs : List Value} {cs' : Array Value} (hr : LRel E cs cs') {off : Nat}
    (hk : partK te cs off fun v => k v H) : OutV P w0 E (part ty cs' off) w k := by
  unfold partK at hk
  have ha := run_isAgg (w := w) hT hty hd
  have hsz := run_sizeOf (w := w) hT hty hd
  split at hk
  · rename_i hagg
    obtain ⟨h1, h2⟩ := reqK_elim hk
    have h1' := Nat.le_of_ble_eq_true h1
    refine OutV.of h h2 (v' := .agg (cs'.extract off (off + te.size))) ?_ ?_
    · simp [part, ha, hagg, hsz]
    · have hl : LRel E ((cs.drop off).take te.size) (cs'.extract off (off + te.size)) := by
        refine LRel.of_get (by simp [← hr.size]; omega) fun j v hv => ?_
        have hj : j < te.size := by have := (List.getElem?_eq_some_iff.1 hv).1; simp at this; omega
        rw [List.getElem?_take_of_lt hj, List.getElem?_drop] at hv
        obtain ⟨v', p, q⟩ := hr.getElem? hv
        refine ⟨v', ?_, q⟩
        have := (Array.getElem?_eq_some_iff.1 p).1
        rw [Array.getElem?_extract, if_pos (by omega)]
        exact p
      exact .agg _ _ hl.toArray.size hl.toArray.get
  · rename_i hagg
    obtain ⟨v, h1, h2⟩ := nthK_elim hk
    obtain ⟨v', p, q⟩ := hr.getElem? h1
    refine OutV.of h h2 (v' := v') ?_ q
    unfold part
    simp only [Sem.run_bind, ha, Result.andThen_ok, hagg, Bool.false_eq_true, if_false, p, Sem.run_pure]

theorem asInt_run (kk : IntKind) (n : Int) : (asInt (.int kk n)).run P w = .ok n w := rfl
theorem asIntOf_run (kk : IntKind) (n : Int) : (asIntOf (.int kk n)).run P w = .ok (kk, n) w := rfl

theorem lenK_sound (hT : TyOk P tt) (h : Rel w0 E H w) {ty : Nat} {argTypes : Array TypeId} (h0 : argTypes[0]? = some ty) (rt : TypeId) {x x' : Value} (hx : VRel E x x') (hk : lenK tt ty x H fun v => k v H) :
    OutV P w0 E (Builtin.len_ argTypes rt #[x']) w k := by
  obtain ⟨te, hty, hk⟩ := tyK_elim hk
  have hd : te.d ≠ .other := by intro hd; rw [hd] at hk; exact hk
  obtain ⟨d, hu, hdk⟩ := run_und (w := w) hT hty hd
  cases hed : te.d <;> simp only [hed] at hk <;> simp only [hed, DOk] at hdk
  case string =>
    subst hdk
    cases hx <;> first | exact hk.elim | skip
    exact OutV.of h hk (by simp [Builtin.len_, h0, hu, goInt]) (.int _ _)
  case slice e =>
    subst hdk
    cases hx <;> first | exact hk.elim | skip
    all_goals exact OutV.of h hk (by simp [Builtin.len_, h0, hu, goInt]) (.int _ _)
  case arr n e =>
    subst hdk
    exact OutV.of h hk (v' := .int .i64 n) (by simp [Builtin.len_, h0, hu, goInt]) (.int _ _)
  case map kt e =>
    subst hdk
    cases hx with
    | mapNil => exact OutV.of h hk (by simp [Builtin.len_, h0, hu, goInt]) (.int _ _)
    | map r hlt =>
      simp only at hk
      split at hk
      · rename_i es clock own hg
        obtain ⟨_, _, es', p1, p2, p3⟩ := h.obj r _ hg
        have hgo : (getObj (E.b r)).run P w = .ok (.map es' clock) w := by simp [getObj, Sem.run, p1]
        exact OutV.of h hk (by simp [Builtin.len_, h0, hu, goInt, hgo, p2]) (.int _ _)
      · exact hk.elim
    | _ => exact hk.elim

theorem copyK_sound (hT : TyOk P tt) (h : Rel w0 E H w) {ty : Nat} {argTypes : Array TypeId} (h0 : argTypes[0]? = some ty) (rt : TypeId) {s s' x x' : Value} (hs : VRel E s s') (hx : VRel E x x')
    (hk : copyK tt ty s x H k) : OutV P w0 E (Builtin.copy_ argTypes rt #[s', x']) w k := by
  obtain ⟨te, hty, hk1⟩ := tyK_elim hk
  clear hk
  split at hk1
  case h_2 => exact hk1.elim
  rename_i e hd
  obtain ⟨ee, hee, hk2⟩ := tyK_elim hk1
  clear hk1
  obtain ⟨hed, hk3⟩ := okK_elim hk2
  clear hk2
  obtain ⟨n, new, hk, hlen, hsrc⟩ := src_elim (P := P) hx hk3
  clear hk3
  obtain ⟨hn, hnew⟩ := hsrc w0 w h
  have hd' : te.d ≠ .other := by rw [hd]; simp
  obtain ⟨d, hu, hdk⟩ := run_und (w := w) hT hty hd'
  rw [hd] at hdk
  simp only [DOk] at hdk
  subst hdk
  have hsz := run_sizeOf (w := w) hT hee hed
  cases hs with
  | sliceNil =>
    obtain ⟨a', p, q, o1⟩ := hnew (Nat.min n 0) (Nat.min_le_left _ _)
    exact OutV.of h hk (v' := .int .i64 0) (by simp at p; simp [Builtin.copy_, h0, hu, hn, hsz, p, goInt]) (.int _ _)
  | slice i off len cap hlt =>
    obtain ⟨c, sz, h5, h6, h7⟩ := storesK_elim hk
    obtain ⟨a', p, q, o1⟩ := hnew (Nat.min n len) (Nat.min_le_left _ _)
    obtain ⟨w', r1, r2⟩ := h.storeCells (P := P) h5 q o1 h6
    refine ⟨_, _, E, _, w', h7, ?_, Ext.refl E, r2, .int _ _⟩
    have p' : (Builtin.firstCells ee.size (min n len) x').run P w = .ok a' w := p
    simp [Builtin.copy_, h0, hu, hn, hsz, p', r1, goInt]
  | slice0 i off x0 hlt hs0 =>
    obtain ⟨c, sz, h5, h6, h7⟩ := storesK_elim hk
    obtain ⟨a', p, q, o1⟩ := hnew (Nat.min n 0) (Nat.min_le_left _ _)
    have hz : a' = #[] := by have := q.size; simp at this; exact Array.size_eq_zero_iff.1 this.symm
    subst hz
    obtain ⟨w', r1, r2⟩ := h.storeCells (P := P) h5 q o1 h6
    have hw : w' = w := by simp [storeCells] at r1; exact r1.symm
    subst hw
    refine ⟨_, _, E, _, w', h7, ?_, Ext.refl E, r2, .int _ _⟩
    have p' : (Builtin.firstCells ee.size (min n 0) x').run P w' = .ok #[] w' := p
    simp at p'
    simp [Builtin.copy_, h0, hu, hn, hsz, p', goInt, storeCells]
  | _ => exact hk.elim
end
end Go.Abs
/- Soundness: conversions, slicing; the whole table. -/
namespace Go.Abs
open Go

section
variable {P : Program} {tt : Tab} {w0 : World} {E : Env} {H : AHeap} {w : World} {k : Value → AHeap → Prop} {t : List Value} {t' : Array Value}

theorem toBytes_loop (f : Value → ByteArray → Sem (ForInStep ByteArray)) (hf : ∀ n r, f (.int .u8 n) r = Pure.pure (ForInStep.yield (r.push (UInt8.ofNat n.toNat)))) :
    ∀ (l a : List Value) (s : ByteArray), allU8 l = true → LRel E l a.toArray → (forIn a s f).run P w = .ok ⟨s.data ++ (l.map byteV).toArray⟩ w
  | [], [], s, _, _ => by simp
  | v :: l, v' :: a, s, hl, hr => by
    have h0 : VRel E v v' := by have := hr.get 0 (by simp); simpa using this
    have h1 : LRel E l a.toArray := ⟨by have := hr.size; simpa using this, fun i hi => by have := hr.get (i + 1) (by simp; omega); simpa [Array.getD_eq_getD_getElem?] using this⟩
    cases v with
    | int kk n =>
      cases kk <;> first | (simp [allU8] at hl; done) | skip
      cases h0
      have := toBytes_loop f hf l a (s.push (UInt8.ofNat n.toNat)) (by simpa [allU8] using hl) h1
      simp only [List.forIn_cons, hf, Sem.run_bind, Sem.run_pure, Result.andThen_ok]
      rw [this]
      simp [byteV, ByteArray.push]
    | _ => simp [allU8] at hl
  | [], _ :: _, _, _, hr => by have := hr.size; simp at this
  | _ :: _, [], _, _, hr => by have := hr.size; simp at this

theorem freeze_new (w : World) (c : Array Value) (e : TypeId) :
    ({ w with heap := w.heap.push (.cells c e) } : World).freeze ⟨w.heap.size, c.size, none⟩ 1 = { w with heap := w.heap.push (.cells c e (c.size, c.size + 1)) } := by
  unfold World.freeze
  rw [if_neg (by decide)]
  congr 1
  apply Array.ext_getElem?
  intro i
  simp only [Array.getElem?_modify, Array.getElem?_push]
  by_cases h : w.heap.size = i
  · subst h; simp
  · rw [if_neg h]
    have : ¬ i = w.heap.size := fun e => h e.symm
    simp [this]

theorem convK_sound (hT : TyOk P tt) (h : Rel w0 E H w) {src dst : Nat} {x x' : Value} (hx : VRel E x x') (hk : convK tt src dst x H k) : OutV P w0 E (convert src dst x') w k := by
  obtain ⟨ts, hts, hk1⟩ := tyK_elim hk
  clear hk
  obtain ⟨td, htd, hk2⟩ := tyK_elim hk1
  clear hk1
  have hdd : td.d ≠ .other := by intro e; rw [e] at hk2; exact hk2
  obtain ⟨dd, hud, hdd'⟩ := run_und (w := w) hT htd hdd
  have hsd : ts.d ≠ .other := by intro e; rw [e] at hk2; split at hk2 <;> exact hk2
  obtain ⟨ds, hus, hds'⟩ := run_und (w := w) hT hts hsd
  cases htd' : td.d <;> simp only [htd'] at hk2 <;> simp only [htd', DOk] at hdd'
  case int kd =>
    subst hdd'
    cases hts' : ts.d <;> simp only [hts'] at hk2 <;> simp only [hts', DOk] at hds'
    subst hds'
    cases hx <;> first | exact hk2.elim | skip
    have h1 := intK_elim hk2
    exact OutV.of h h1 (by simp [convert, hus, hud, Conv.intToInt]) (.int _ _)
  case string =>
    subst hdd'
    cases hts' : ts.d <;> simp only [hts'] at hk2 <;> simp only [hts', DOk] at hds'
    case string =>
      subst hds'
      cases hx <;> first | exact hk2.elim | skip
      exact OutV.of h hk2 (by simp [convert, hus, hud]) (.string _)
    case slice e =>
      subst hds'
      obtain ⟨ee, hee, hk3⟩ := tyK_elim hk2
      clear hk2
      split at hk3
      case h_2 => exact hk3.elim
      rename_i hed
      obtain ⟨de, hue, hde⟩ := run_und (w := w) hT hee (by rw [hed]; simp)
      rw [hed] at hde
      simp only [DOk] at hde
      subst hde
      cases hx with
      | sliceNil => exact OutV.of h hk3 (by simp [convert, hus, hud, hue, Conv.bytesToString]) (.string _)
      | slice i off n cap hlt =>
        obtain ⟨c, own, sz, h1, h2, h3⟩ := loadsK_elim hk3
        obtain ⟨h4, h5⟩ := reqK_elim h3
        obtain ⟨vs', p, q, o1⟩ := run_loadCells_of (P := P) h h1 h2
        refine OutV.of h h5 (v' := .string (strV ((c.drop off).take n))) ?_ (.string _)
        simp only [convert, Sem.run_bind, hus, hud, hue, Conv.bytesToString, p, Result.andThen_ok]
        rw [← Array.forIn_toList, toBytes_loop (P := P) (w := w) (E := E) _ (fun _ _ => rfl) ((c.drop off).take n) vs'.toList ByteArray.empty h4 (by simpa using q)]
        simp [strV]
      | slice0 i off x0 hlt hs0 =>
        obtain ⟨c, own, sz, h1, h2, h3⟩ := loadsK_elim hk3
        obtain ⟨h4, h5⟩ := reqK_elim h3
        refine OutV.of h h5 (v' := .string (strV ((c.drop off).take 0))) ?_ (.string _)
        simp [convert, hus, hud, hue, Conv.bytesToString, loadCells, loadCellsFrom, strV]
        rfl
      | _ => exact hk3.elim
  case slice e =>
    subst hdd'
    cases hts' : ts.d <;> simp only [hts'] at hk2 <;> simp only [hts', DOk] at hds'
    case string =>
      subst hds'
      obtain ⟨ee, hee, hk3⟩ := tyK_elim hk2
      clear hk2
      split at hk3
      case h_2 => exact hk3.elim
      rename_i hed
      obtain ⟨de, hue, hde⟩ := run_und (w := w) hT hee (by rw [hed]; simp)
      rw [hed] at hde
      simp only [DOk] at hde
      subst hde
      cases hx with
      | string s =>
        obtain ⟨h1, h2⟩ := reqK_elim hk3
        have hcap : s.size ≤ (Question.appendCap s.size 0 e).cut (w.tape w.drawn (.appendCap s.size 0 e)) := by simp only [Question.cut]; exact Nat.le_add_right _ _
        generalize hcp : (Question.appendCap s.size 0 e).cut (w.tape w.drawn (.appendCap s.size 0 e)) = cp at hcap
        have hR : Rel w0 E H { w with drawn := w.drawn + 1 } := h.drew _
        have hb := bytesV_rel s E
        have hsz : (s.data.map fun b => (Value.int .u8 b.toNat)).size = s.size := by simp
        have hR2 := hR.alloc (.cells ((s.data.map fun b => (.int .u8 b.toNat)) ++ Array.replicate (cp - s.size) (.int .u8 0)) e (cp, cp + 1)) (.cells (bytesV s) true 1) (cp - s.size) (fun w' hw' => by
          have hb' : (E.push w.heap.size 0 (cp - s.size)).b H.size = w.heap.size := by simp [Env.push, h.n]
          have hd' : (E.push w.heap.size 0 (cp - s.size)).d H.size = 0 := by simp [Env.push, h.n]
          have hs' : (E.push w.heap.size 0 (cp - s.size)).s H.size = cp - s.size := by simp [Env.push, h.n]
          have hl : (bytesV s).length = s.size := by rw [hb.size]; exact hsz
          refine .inr ⟨_, e, _, by rw [hb']; exact hw', fun q v hv => ?_, fun _ => ⟨?_, fun q hq => ?_⟩⟩
          · obtain ⟨v', a, b⟩ := hb.getElem? hv
            have hlt := (Array.getElem?_eq_some_iff.1 a).1
            refine ⟨v', by rw [hd', Nat.zero_add, Array.getElem?_append_left hlt]; exact a, b.mono (Ext.push _ _ _ _), ?_⟩
            simp only [Array.getElem?_map, Option.map_eq_some_iff] at a
            obtain ⟨_, _, rfl⟩ := a; rfl
          · rw [hd', hs', Array.size_append, hsz, hl, Array.size_replicate]; omega
          · rw [hs', hl] at hq; rw [hd']; simp only [Nat.zero_add]; omega)
        refine ⟨_, _, _, .slice (some ⟨w.heap.size, 0, none⟩) s.size cp, _, h2, ?_, Ext.push _ _ _ _, hR2, ?_⟩
        · have hfz := freeze_new { w with drawn := w.drawn + 1 } ((s.data.map fun b : UInt8 => (Value.int .u8 b.toNat)) ++ Array.replicate (cp - s.size) (Value.int .u8 0)) e
          have hcs : ((s.data.map fun b : UInt8 => (Value.int .u8 b.toNat)) ++ Array.replicate (cp - s.size) (Value.int .u8 0)).size = cp := by rw [Array.size_append, hsz, Array.size_replicate]; omega
          rw [hcs] at hfz
          have hshape : ∀ (w1 : World) (c : Array Value) (e : TypeId), ({ w1 with heap := w1.heap.push (.cells c e) } : World).shape? w1.heap.size = some (e, c.size) := by intro w1 c e; simp [World.shape?]
          simp only [convert, Sem.run_bind, hus, hud, hue, Conv.stringToBytes, Result.andThen_ok, run_choose, Question.forced, Bool.false_eq_true, if_false, hcp, newRow, run_newObj, Sem.run_pure, markStringish, run_shape]
          have hs1 := hshape { w with drawn := w.drawn + 1 } ((s.data.map fun b : UInt8 => (Value.int .u8 b.toNat)) ++ Array.replicate (cp - s.size) (Value.int .u8 0)) e
          simp only [] at hs1 hfz
          rw [hs1]
          simp only [run_freeze, Result.andThen_ok, hcs]
          rw [hfz]
        · have := VRel.newSlice E w.heap.size 0 (cp - s.size) s.size s.size
          rw [show s.size + (cp - s.size) = cp by omega, h.n] at this
          exact this
      | _ => exact hk3.elim
end
end Go.Abs
