/- Soundness: conversions, slicing; the whole table. -/
import Derived.Test.YtpcnnioicfljfaaAbsPrim5
set_option linter.all false
namespace Go.Abs
open Go

section
variable {P : Program} {tt : Tab} {w0 : World} {E : Env} {H : AHeap} {w : World} {k : Value → AHeap → Prop} {t : List Value} {t' : Array Value}

theorem toBytes_loop (f : Value → ByteArray → Sem (ForInStep ByteArray)) (hf : ∀ n r, f (.int .u8 n) r = Pure.pure (ForInStep.yield (r.push (UInt8.ofNat n.toNat)))) :
    ∀ (l a : List Value) (s : ByteArray), allU8 l = true → LRel E l a.toArray → (forIn a s f).run P w = .ok ⟨s.data ++ (l.map byteV).toArray⟩ w
  | [], [], s, _, _ => by simp
  | v :: l, v' :: a, s, hl, hr => by
    have h0 : VRel E v v' := by have := hr.get 0 (by simp); simpa using this
    have h1 : LRel E l a.toArray := ⟨by have := hr.size; simpa using this, fun i hi => by have := hr.get (i + 1) (by simp; omega); simpa [Array.getD_eq_getD_getElem?] using this⟩
    cases v with
    | int kk n =>
      cases kk <;> first | (simp [allU8] at hl; done) | skip
      cases h0
      have := toBytes_loop f hf l a (s.push (UInt8.ofNat n.toNat)) (by simpa [allU8] using hl) h1
      simp only [List.forIn_cons, hf, Sem.run_bind, Sem.run_pure, Result.andThen_ok]
      rw [this]
      simp [byteV, ByteArray.push]
    | _ => simp [allU8] at hl
  | [], _ :: _, _, _, hr => by have := hr.size; simp at this
  | _ :: _, [], _, _, hr => by have := hr.size; simp at this

theorem freeze_new (w : World) (c : Array Value) (e : TypeId) :
    ({ w with heap := w.heap.push (.cells c e) } : World).freeze ⟨w.heap.size, c.size, none⟩ 1 = { w with heap := w.heap.push (.cells c e (c.size, c.size + 1)) } := by
  unfold World.freeze
  rw [if_neg (by decide)]
  congr 1
  apply Array.ext_getElem?
  intro i
  simp only [Array.getElem?_modify, Array.getElem?_push]
  by_cases h : w.heap.size = i
  · subst h; simp
  · rw [if_neg h]
    have : ¬ i = w.heap.size := fun e => h e.symm
    simp [this]

theorem convK_sound (hT : TyOk P tt) (h : Rel w0 E H w) {src dst : Nat} {x x' : Value} (hx : VRel E x x') (hk : convK tt src dst x H k) : OutV P w0 E (convert src dst x') w k := by
  obtain ⟨ts, hts, hk1⟩ := tyK_elim hk
  clear hk
  obtain ⟨td, htd, hk2⟩ := tyK_elim hk1
  clear hk1
  have hdd : td.d ≠ .other := by intro e; rw [e] at hk2; exact hk2
  obtain ⟨dd, hud, hdd'⟩ := run_und (w := w) hT htd hdd
  have hsd : ts.d ≠ .other := by intro e; rw [e] at hk2; split at hk2 <;> exact hk2
  obtain ⟨ds, hus, hds'⟩ := run_und (w := w) hT hts hsd
  cases htd' : td.d <;> simp only [htd'] at hk2 <;> simp only [htd', DOk] at hdd'
  case int kd =>
    subst hdd'
    cases hts' : ts.d <;> simp only [hts'] at hk2 <;> simp only [hts', DOk] at hds'
    subst hds'
    cases hx <;> first | exact hk2.elim | skip
    have h1 := intK_elim hk2
    exact OutV.of h h1 (by simp [convert, hus, hud, Conv.intToInt]) (.int _ _)
  case string =>
    subst hdd'
    cases hts' : ts.d <;> simp only [hts'] at hk2 <;> simp only [hts', DOk] at hds'
    case string =>
      subst hds'
      cases hx <;> first | exact hk2.elim | skip
      exact OutV.of h hk2 (by simp [convert, hus, hud]) (.string _)
    case slice e =>
      subst hds'
      obtain ⟨ee, hee, hk3⟩ := tyK_elim hk2
      clear hk2
      split at hk3
      case h_2 => exact hk3.elim
      rename_i hed
      obtain ⟨de, hue, hde⟩ := run_und (w := w) hT hee (by rw [hed]; simp)
      rw [hed] at hde
      simp only [DOk] at hde
      subst hde
      cases hx with
      | sliceNil => exact OutV.of h hk3 (by simp [convert, hus, hud, hue, Conv.bytesToString]) (.string _)
      | slice i off n cap hlt =>
        obtain ⟨c, own, sz, h1, h2, h3⟩ := loadsK_elim hk3
        obtain ⟨h4, h5⟩ := reqK_elim h3
        obtain ⟨vs', p, q, o1⟩ := run_loadCells_of (P := P) h h1 h2
        refine OutV.of h h5 (v' := .string (strV ((c.drop off).take n))) ?_ (.string _)
        simp only [convert, Sem.run_bind, hus, hud, hue, Conv.bytesToString, p, Result.andThen_ok]
        rw [← Array.forIn_toList, toBytes_loop (P := P) (w := w) (E := E) _ (fun _ _ => rfl) ((c.drop off).take n) vs'.toList ByteArray.empty h4 (by simpa using q)]
        simp [strV]
      | slice0 i off x0 hlt hs0 =>
        obtain ⟨c, own, sz, h1, h2, h3⟩ := loadsK_elim hk3
        obtain ⟨h4, h5⟩ := reqK_elim h3
        refine OutV.of h h5 (v' := .string (strV ((c.drop off).take 0))) ?_ (.string _)
        simp [convert, hus, hud, hue, Conv.bytesToString, loadCells, loadCellsFrom, strV]
        rfl
      | _ => exact hk3.elim
  case slice e =>
    subst hdd'
    cases hts' : ts.d <;> simp only [hts'] at hk2 <;> simp only [hts', DOk] at hds'
    case string =>
      subst hds'
      obtain ⟨ee, hee, hk3⟩ := tyK_elim hk2
      clear hk2
      split at hk3
      case h_2 => exact hk3.elim
      rename_i hed
      obtain ⟨de, hue, hde⟩ := run_und (w := w) hT hee (by rw [hed]; simp)
      rw [hed] at hde
      simp only [DOk] at hde
      subst hde
      cases hx with
      | string s =>
        obtain ⟨h1, h2⟩ := reqK_elim hk3
        have hcap : s.size ≤ (Question.appendCap s.size 0 e).cut (w.tape w.drawn (.appendCap s.size 0 e)) := by simp only [Question.cut]; exact Nat.le_add_right _ _
        generalize hcp : (Question.appendCap s.size 0 e).cut (w.tape w.drawn (.appendCap s.size 0 e)) = cp at hcap
        have hR : Rel w0 E H { w with drawn := w.drawn + 1 } := h.drew _
        have hb := bytesV_rel s E
        have hsz : (s.data.map fun b => (Value.int .u8 b.toNat)).size = s.size := by simp
        have hR2 := hR.alloc (.cells ((s.data.map fun b => (.int .u8 b.toNat)) ++ Array.replicate (cp - s.size) (.int .u8 0)) e (cp, cp + 1)) (.cells (bytesV s) true 1) (cp - s.size) (fun w' hw' => by
          have hb' : (E.push w.heap.size 0 (cp - s.size)).b H.size = w.heap.size := by simp [Env.push, h.n]
          have hd' : (E.push w.heap.size 0 (cp - s.size)).d H.size = 0 := by simp [Env.push, h.n]
          have hs' : (E.push w.heap.size 0 (cp - s.size)).s H.size = cp - s.size := by simp [Env.push, h.n]
          have hl : (bytesV s).length = s.size := by rw [hb.size]; exact hsz
          refine .inr ⟨_, e, _, by rw [hb']; exact hw', fun q v hv => ?_, fun _ => ⟨?_, fun q hq => ?_⟩⟩
          · obtain ⟨v', a, b⟩ := hb.getElem? hv
            have hlt := (Array.getElem?_eq_some_iff.1 a).1
            refine ⟨v', by rw [hd', Nat.zero_add, Array.getElem?_append_left hlt]; exact a, b.mono (Ext.push _ _ _ _), ?_⟩
            simp only [Array.getElem?_map, Option.map_eq_some_iff] at a
            obtain ⟨_, _, rfl⟩ := a; rfl
          · rw [hd', hs', Array.size_append, hsz, hl, Array.size_replicate]; omega
          · rw [hs', hl] at hq; rw [hd']; simp only [Nat.zero_add]; omega)
        refine ⟨_, _, _, .slice (some ⟨w.heap.size, 0, none⟩) s.size cp, _, h2, ?_, Ext.push _ _ _ _, hR2, ?_⟩
        · have hfz := freeze_new { w with drawn := w.drawn + 1 } ((s.data.map fun b : UInt8 => (Value.int .u8 b.toNat)) ++ Array.replicate (cp - s.size) (Value.int .u8 0)) e
          have hcs : ((s.data.map fun b : UInt8 => (Value.int .u8 b.toNat)) ++ Array.replicate (cp - s.size) (Value.int .u8 0)).size = cp := by rw [Array.size_append, hsz, Array.size_replicate]; omega
          rw [hcs] at hfz
          have hshape : ∀ (w1 : World) (c : Array Value) (e : TypeId), ({ w1 with heap := w1.heap.push (.cells c e) } : World).shape? w1.heap.size = some (e, c.size) := by intro w1 c e; simp [World.shape?]
          simp only [convert, Sem.run_bind, hus, hud, hue, Conv.stringToBytes, Result.andThen_ok, run_choose, Question.forced, Bool.false_eq_true, if_false, hcp, newRow, run_newObj, Sem.run_pure, markStringish, run_shape]
          have hs1 := hshape { w with drawn := w.drawn + 1 } ((s.data.map fun b : UInt8 => (Value.int .u8 b.toNat)) ++ Array.replicate (cp - s.size) (Value.int .u8 0)) e
          simp only [] at hs1 hfz
          rw [hs1]
          simp only [run_freeze, Result.andThen_ok, hcs]
          rw [hfz]
        · have := VRel.newSlice E w.heap.size 0 (cp - s.size) s.size s.size
          rw [show s.size + (cp - s.size) = cp by omega, h.n] at this
          exact this
      | _ => exact hk3.elim
end
end Go.Abs
