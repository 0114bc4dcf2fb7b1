/- Soundness: maps whose keys are integers, strings or bools. -/
import Derived.Test.YtbmbabgkpcnppaaAbsPrim5
set_option linter.all false
namespace Go.Abs
open Go

def EsRel (E : Env) (es es' : List MapEntry) : Prop := es.length = es'.length ∧ ∀ (i : Nat) e, es[i]? = some e → ∃ e', es'[i]? = some e' ∧ EntRel E e e'
theorem EsRel.cons_inv {E : Env} {e : MapEntry} {es es' : List MapEntry} (h : EsRel E (e :: es) es') : ∃ e' es'', es' = e' :: es'' ∧ EntRel E e e' ∧ EsRel E es es'' := by
  obtain ⟨hl, hg⟩ := h
  cases es' with
  | nil => simp at hl
  | cons e' es'' =>
    obtain ⟨x, h1, h2⟩ := hg 0 e rfl
    simp at h1
    subst h1
    exact ⟨e', es'', rfl, h2, by simpa using hl, fun i y hy => by simpa using hg (i + 1) y (by simpa using hy)⟩
theorem sameNow_rel {E : Env} {kd : TypeDesc} {a a' b b' : Value} (ha : VRel E a a') (hb : VRel E b b') {r : Bool} (h : Instr.sameNow kd a b = some r) : Instr.sameNow kd a' b' = some r := by
  unfold Instr.sameNow at h
  split at h
  · cases ha; cases hb; exact h
  · cases ha; cases hb; exact h
  · cases ha; cases hb; exact h
  · exact absurd h (by simp)
def ResRel (E : Env) (es : List MapEntry) (n : Nat) : Option (Nat × Value) → Option (Nat × Value) → Prop
  | none, none => True
  | some x, some y => x.1 = y.1 ∧ VRel E x.2 y.2 ∧ n ≤ x.1 ∧ x.1 < n + es.length
  | _, _ => False
theorem findNow_rel {E : Env} {kd : TypeDesc} {k k' : Value} (hk : VRel E k k') : ∀ (es es' : List MapEntry) (n : Nat) (r : Option (Nat × Value)), EsRel E es es' → Instr.findNow kd k es n = some r →
    ∃ r', Instr.findNow kd k' es' n = some r' ∧ ResRel E es n r r' ∧ (∀ i v, r = some (i, v) → ∃ e, es[i - n]? = some e ∧ v = e.val ∧ Instr.sameNow kd k e.key = some true)
  | [], es', n, r, h, hf => by
    have : es' = [] := by have := h.1; simpa using this.symm
    subst this
    simp only [Instr.findNow] at hf
    cases hf
    exact ⟨none, rfl, trivial, fun i v h => absurd h (by simp)⟩
  | e :: es, es', n, r, h, hf => by
    obtain ⟨e', es'', rfl, he, hes⟩ := h.cons_inv
    unfold Instr.findNow at hf ⊢
    split at hf
    · rename_i hs
      rw [sameNow_rel hk he.key hs]
      cases hf
      exact ⟨_, rfl, ⟨rfl, he.val, by simp, by simp⟩, fun i v h => by cases h; exact ⟨e, by simp, rfl, hs⟩⟩
    · rename_i hs
      rw [sameNow_rel hk he.key hs]
      obtain ⟨r', h1, h2, h3⟩ := findNow_rel hk es es'' (n + 1) r hes hf
      refine ⟨r', h1, ?_, ?_⟩
      · cases r with
        | none => cases r' with
          | none => trivial
          | some y => exact h2
        | some x => cases r' with
          | none => exact h2
          | some y =>
            obtain ⟨q1, q2, q3, q4⟩ := h2
            exact ⟨q1, q2, by omega, by simp; omega⟩
      · intro i v hr
        obtain ⟨e2, g1, g2, g3⟩ := h3 i v hr
        subst hr
        cases r' with
        | none => exact h2.elim
        | some y =>
          obtain ⟨q1, q2, q3, q4⟩ := h2
          have q3' : n + 1 ≤ i := q3
          refine ⟨e2, ?_, g2, g3⟩
          rw [show i - n = (i - (n + 1)) + 1 by omega]
          simpa using g1
    · exact absurd hf (by simp)

section
variable {P : Program} {tt : Tab} {w0 : World} {E : Env} {H : AHeap} {w : World}
theorem key_run (hT : TyOk P tt) {kt : TypeId} {ke : TE} {td : TypeDesc} (hk : tt[kt]? = some ke) (hd : ke.d.keyDesc = some td) : (underlying kt).run P w = .ok td w ∧ ((∃ k, td = .int k) ∨ td = .string ∨ td = .bool) := by
  have hne : ke.d ≠ .other := by intro e; rw [e] at hd; simp [TD.keyDesc] at hd
  obtain ⟨d, hu, hdk⟩ := run_und (w := w) hT hk hne
  cases hed : ke.d <;> rw [hed] at hd hdk <;> simp only [TD.keyDesc, reduceCtorEq, Option.some.injEq] at hd
  case int k => subst hd; have e : d = .int k := hdk; subst e; exact ⟨hu, .inl ⟨_, rfl⟩⟩
  case string => subst hd; have e : d = .string := hdk; subst e; exact ⟨hu, .inr (.inl rfl)⟩
  case bool => subst hd; have e : d = .bool := hdk; subst e; exact ⟨hu, .inr (.inr rfl)⟩
theorem checkKey_run {kt : TypeId} {td : TypeDesc} (hu : (underlying kt).run P w = .ok td w) (htd : (∃ k, td = .int k) ∨ td = .string ∨ td = .bool) (b : Bool) (v : Value) : (Instr.checkKey b 10000 kt v).run P w = .ok () w := by
  rw [show (10000 : Nat) = 9999 + 1 from rfl, Instr.checkKey]
  simp only [Sem.run_bind, hu, Result.andThen_ok]
  rcases htd with ⟨k, rfl⟩ | rfl | rfl <;> cases v <;> rfl
theorem findKey_run {kt : TypeId} {td : TypeDesc} (hu : (underlying kt).run P w = .ok td w) {v : Value} {es : List MapEntry} {r : Option (Nat × Value)} (hf : Instr.findNow td v es 0 = some r) : (Instr.findKey kt v es).run P w = .ok r w := by
  unfold Instr.findKey
  simp [Sem.run_bind, hu, hf]
theorem map_obj (h : Rel w0 E H w) {r : Nat} {es : List MapEntry} {clock : Nat} {own : Bool} (hg : H.get r = some (.map es clock own)) : ∃ es' : Array MapEntry, w.heap[E.b r]? = some (.map es' clock) ∧ EsRel E es es'.toList := by
  obtain ⟨_, _, es', h1, h2, h3⟩ := h.obj r _ hg
  exact ⟨es', h1, by simpa using h2, fun i e he => by simpa using h3 i e he⟩
theorem mapTy_elim {ty : TypeId} {k : TE → TE → Prop} (hT : TyOk P tt) (h : mapTyK tt ty k) : ∃ kt et ke ee, (underlying ty).run P w = .ok (.map kt et) w ∧ tt[kt]? = some ke ∧ tt[et]? = some ee ∧ ee.d ≠ .other ∧ k ke ee := by
  obtain ⟨te, ht, h1⟩ := tyK_elim h
  have hd : te.d ≠ .other := by intro e; rw [e] at h1; exact h1
  obtain ⟨d, hu, hdk⟩ := run_und (w := w) hT ht hd
  cases hed : te.d <;> simp only [hed] at h1 <;> simp only [hed, DOk] at hdk
  case map kt et =>
    subst hdk
    obtain ⟨ke, hk, h2⟩ := tyK_elim h1
    obtain ⟨ee, he, h3⟩ := tyK_elim h2
    obtain ⟨hde, h4⟩ := okK_elim h3
    exact ⟨kt, et, ke, ee, hu, hk, he, hde, h4⟩
theorem okV_rel {E : Env} {v v' : Value} (h : VRel E v v') (ok b : Bool) : VRel E (okV ok v b) (if ok then .tuple #[v', .bool b] else v') := by
  cases ok
  · exact h
  · refine .tuple _ _ rfl fun i hi => ?_
    match i, hi with
    | 0, _ => exact h
    | 1, _ => exact .bool b
theorem EsRel.nil (E : Env) : EsRel E [] [] := ⟨rfl, fun i e h => absurd h (by simp)⟩

theorem lookupK_sound (hT : TyOk P tt) (h : Rel w0 E H w) {ty : TypeId} {m m' key key' : Value} {ok : Bool} {k : Value → AHeap → Prop} (hm : VRel E m m') (hkey : VRel E key key') (hk : lookupK tt ty m key ok H k) :
    OutV P w0 E (Instr.lookup ty m' key' ok) w k := by
  obtain ⟨kt, et, ke, ee, hu, hkt, het, hde, h1⟩ := mapTy_elim (w := w) hT hk
  have hz := run_zeroValue (P := P) (w := w) hT het hde
  obtain ⟨z1, _, _, _⟩ := zero_rel hT het hde E
  split at h1
  · cases hm
    obtain ⟨td, r, hd, hf, h2⟩ := findK_elim h1
    obtain ⟨hku, htd⟩ := key_run (w := w) hT hkt hd
    refine OutV.of h h2 ?_ (okV_rel z1 ok false)
    unfold Instr.lookup
    have hf' : (Instr.findKey kt key' []).run P w = .ok none w := findKey_run hku rfl
    simp [Sem.run_bind, hu, checkKey_run hku htd, hf', hz]
  · rename_i r
    cases hm with
    | map _ hr =>
      obtain ⟨o, hg, h2⟩ := heapK_elim h1
      split at h2
      · rename_i es clock own
        obtain ⟨td, res, hd, hf, h3⟩ := findK_elim h2
        obtain ⟨hku, htd⟩ := key_run (w := w) hT hkt hd
        obtain ⟨es', p1, p2⟩ := map_obj h hg
        have hgo : (getObj (E.b r)).run P w = .ok (.map es' clock) w := by simp [getObj, Sem.run, p1]
        obtain ⟨res', q1, q2, q3⟩ := findNow_rel hkey es es'.toList 0 res p2 hf
        have hf' := findKey_run (P := P) (w := w) hku q1
        cases res with
        | none =>
          cases res' with
          | some y => exact q2.elim
          | none =>
            refine OutV.of h h3 ?_ (okV_rel z1 ok false)
            unfold Instr.lookup
            simp [Sem.run_bind, hu, hgo, checkKey_run hku htd, hf', hz]
        | some x =>
          cases res' with
          | none => exact q2.elim
          | some y =>
            refine OutV.of h h3 ?_ (okV_rel q2.2.1 ok true)
            unfold Instr.lookup
            obtain ⟨y1, y2⟩ := y
            simp [Sem.run_bind, hu, hgo, checkKey_run hku htd, hf']
      · exact h2.elim
  · exact h1.elim

theorem mapSet_run (h : Rel w0 E H w) {r : Nat} {es es2 : List MapEntry} {clock clock2 : Nat} (hg : H.get r = some (.map es clock true)) {es2' : Array MapEntry} (hrel : EsRel E es2 es2'.toList) :
    ∃ w', (setObj (E.b r) (.map es2' clock2)).run P w = .ok () w' ∧ Rel w0 E (H.set r (.map es2 clock2 true)) w' := by
  obtain ⟨es', p1, _⟩ := map_obj h hg
  have hlt : E.b r < w.heap.size := (Array.getElem?_eq_some_iff.1 p1).1
  refine ⟨{ w with heap := w.heap.setIfInBounds (E.b r) (.map es2' clock2) }, by simp [setObj, Sem.run, p1], ?_⟩
  refine h.write hg rfl _ (by simp) rfl rfl rfl (fun x hx => by simp [Array.getElem?_setIfInBounds_ne (Ne.symm hx)]) ?_
  exact ⟨es2', by simp [hlt], by simpa using hrel.1, fun k e he => by simpa using hrel.2 k e he⟩
theorem EsRel.modify {E : Env} {es es' : List MapEntry} (h : EsRel E es es') (i : Nat) {f f' : MapEntry → MapEntry} (hf : ∀ e e', EntRel E e e' → EntRel E (f e) (f' e')) : EsRel E (es.modify i f) (es'.modify i f') := by
  refine ⟨by simp [h.1], fun j e he => ?_⟩
  rw [List.getElem?_modify] at he ⊢
  cases hj : es[j]? with
  | none => rw [hj] at he; simp at he
  | some x =>
    obtain ⟨x', h1, h2⟩ := h.2 j x hj
    rw [hj] at he
    rw [h1]
    simp only [Option.map_some, Option.map_eq_map, Option.some.injEq] at he ⊢
    subst he
    refine ⟨_, rfl, ?_⟩
    split
    · exact hf _ _ h2
    · exact h2
theorem EsRel.snoc {E : Env} {es es' : List MapEntry} (h : EsRel E es es') {e e' : MapEntry} (he : EntRel E e e') : EsRel E (es ++ [e]) (es' ++ [e']) := by
  refine ⟨by simp [h.1], fun j x hx => ?_⟩
  rw [List.getElem?_append] at hx ⊢
  rw [h.1] at hx
  split at hx
  · rename_i hlt; rw [if_pos hlt]; exact h.2 j x hx
  · rename_i hlt
    rw [if_neg hlt]
    cases hj : j - es'.length with
    | zero => rw [hj] at hx; simp at hx; subst hx; exact ⟨e', by simp, he⟩
    | succ n => rw [hj] at hx; simp at hx
theorem EsRel.eraseIdx {E : Env} {es es' : List MapEntry} (h : EsRel E es es') (i : Nat) : EsRel E (es.eraseIdx i) (es'.eraseIdx i) := by
  refine ⟨by simp [List.length_eraseIdx, h.1], fun j x hx => ?_⟩
  rw [List.getElem?_eraseIdx] at hx ⊢
  split at hx
  · rename_i hlt; rw [if_pos hlt]; exact h.2 _ x hx
  · rename_i hlt; rw [if_neg hlt]; exact h.2 _ x hx
theorem ba_eq {a b : ByteArray} (h : (a == b) = true) : a = b := by
  cases a; cases b
  rename_i x y
  have h' : (x == y) = true := h
  rw [eq_of_beq h']
theorem ba_beq (a : ByteArray) : (a == a) = true := by
  cases a
  rename_i x
  show (x == x) = true
  simp
theorem stays_run {E : Env} {td : TypeDesc} {k k' o o' : Value} (hs : Instr.sameNow td k o = some true) (hk : VRel E k k') (ho : VRel E o o') : (Instr.keyThatStays o' k').run P w = .ok k' w := by
  have hb : Instr.sameBits 10000 o' k' = true := by
    have hs' := sameNow_rel hk ho hs
    unfold Instr.sameNow at hs'
    split at hs'
    · split at hs'
      · rename_i heq
        subst heq
        simp at hs'
        subst hs'
        simp [Instr.sameBits]
      · exact absurd hs' (by simp)
    · have e := ba_eq (Option.some.inj hs'); subst e; simp [Instr.sameBits, ba_beq]
    · have e := eq_of_beq (Option.some.inj hs'); subst e; simp [Instr.sameBits]
    · exact absurd hs' (by simp)
  unfold Instr.keyThatStays
  simp [hb]

theorem mapUpdK_sound (hT : TyOk P tt) (h : Rel w0 E H w) {ty : TypeId} {m m' key key' x x' : Value} {k : AHeap → Prop} (hm : VRel E m m') (hkey : VRel E key key') (hx : VRel E x x') (hk : mapUpdK tt ty m key x H k) :
    OutU P w0 E (Instr.mapUpdate ty m' key' x') w k := by
  obtain ⟨kt, et, ke, ee, hu, hkt, het, hde, h1⟩ := mapTy_elim (w := w) hT hk
  split at h1
  · rename_i r
    cases hm with
    | map _ hr =>
      obtain ⟨o, hg, h2⟩ := heapK_elim h1
      split at h2
      · rename_i es clock
        obtain ⟨td, res, hd, hf, h3⟩ := findK_elim h2
        obtain ⟨hku, htd⟩ := key_run (w := w) hT hkt hd
        obtain ⟨es', p1, p2⟩ := map_obj h hg
        have hgo : (getObj (E.b r)).run P w = .ok (.map es' clock) w := by simp [getObj, Sem.run, p1]
        obtain ⟨res', q1, q2, q3⟩ := findNow_rel hkey es es'.toList 0 res p2 hf
        have hf' := findKey_run (P := P) (w := w) hku q1
        cases res with
        | none =>
          cases res' with
          | some y => exact q2.elim
          | none =>
            obtain ⟨w', g1, g2⟩ := mapSet_run (P := P) h hg (clock2 := clock + 1) (es2' := es'.push { key := key', val := x', born := clock }) (by
              rw [Array.toList_push]
              exact p2.snoc (e := ⟨key, x, clock⟩) ⟨rfl, hkey, hx⟩)
            refine ⟨_, w', h3, ?_, g2⟩
            unfold Instr.mapUpdate
            simp [Sem.run_bind, hu, hgo, checkKey_run hku htd, hf', g1]
        | some y =>
          cases res' with
          | none => exact q2.elim
          | some y' =>
            obtain ⟨i, v⟩ := y
            obtain ⟨i', v'⟩ := y'
            obtain ⟨rfl, hv, _, hlt⟩ := q2
            obtain ⟨e, r1, r2, r3⟩ := q3 i v rfl
            obtain ⟨e', r4, r5⟩ := p2.2 i e (by simpa using r1)
            have r4' : es'[i]? = some e' := by simpa using r4
            obtain ⟨w', g1, g2⟩ := mapSet_run (P := P) h hg (clock2 := clock) (es2' := es'.modify i fun e => { e with key := key', val := x' }) (by
              rw [Array.toList_modify]
              exact p2.modify i (f := fun e => ⟨key, x, e.born⟩) fun a b hab => ⟨hab.born, hkey, hx⟩)
            refine ⟨_, w', h3, ?_, g2⟩
            unfold Instr.mapUpdate
            simp [Sem.run_bind, hu, hgo, checkKey_run hku htd, hf', r4', stays_run r3 hkey r5.key, g1]
      · exact h2.elim
  · exact h1.elim

theorem pair_rel {E : Env} {v v' : Value} (h : VRel E v v') (n : Int) : VRel E (.tuple #[v, .int .i64 n]) (.tuple #[v', .int .i64 n]) := by
  refine .tuple _ _ rfl fun i hi => ?_
  match i, hi with
  | 0, _ => exact h
  | 1, _ => exact .int _ _
theorem mapEntK_sound (hT : TyOk P tt) (h : Rel w0 E H w) {ty : TypeId} {m m' key key' : Value} {k : Value → AHeap → Prop} (hm : VRel E m m') (hkey : VRel E key key') (hk : mapEntK tt ty m key H k) :
    OutV P w0 E (Instr.mapEntry ty m' key') w k := by
  obtain ⟨kt, et, ke, ee, hu, hkt, het, hde, h1⟩ := mapTy_elim (w := w) hT hk
  have hz := run_zeroValue (P := P) (w := w) hT het hde
  obtain ⟨z1, _, _, _⟩ := zero_rel hT het hde E
  split at h1
  · rename_i r
    cases hm with
    | map _ hr =>
      obtain ⟨o, hg, h2⟩ := heapK_elim h1
      split at h2
      · rename_i es clock
        obtain ⟨td, res, hd, hf, h3⟩ := findK_elim h2
        obtain ⟨hku, htd⟩ := key_run (w := w) hT hkt hd
        obtain ⟨es', p1, p2⟩ := map_obj h hg
        have hgo : (getObj (E.b r)).run P w = .ok (.map es' clock) w := by simp [getObj, Sem.run, p1]
        obtain ⟨res', q1, q2, q3⟩ := findNow_rel hkey es es'.toList 0 res p2 hf
        have hf' := findKey_run (P := P) (w := w) hku q1
        cases res with
        | none =>
          cases res' with
          | some y => exact q2.elim
          | none =>
            obtain ⟨w', g1, g2⟩ := mapSet_run (P := P) h hg (clock2 := clock + 1) (es2' := es'.push { key := key', val := ee.zero, born := clock }) (by
              rw [Array.toList_push]
              exact p2.snoc (e := ⟨key, ee.zero, clock⟩) ⟨rfl, hkey, z1⟩)
            refine ⟨_, _, E, _, w', h3, ?_, Ext.refl E, g2, pair_rel z1 _⟩
            unfold Instr.mapEntry
            simp [Sem.run_bind, hu, hgo, checkKey_run hku htd, hf', hz, g1, goInt]
        | some y =>
          cases res' with
          | none => exact q2.elim
          | some y' =>
            obtain ⟨i, v⟩ := y
            obtain ⟨i', v'⟩ := y'
            obtain ⟨rfl, hv, _, hlt⟩ := q2
            obtain ⟨e, r1, r2, r3⟩ := q3 i v rfl
            have r1' : es[i]? = some e := by simpa using r1
            obtain ⟨e', r4, r5⟩ := p2.2 i e r1'
            have r4' : es'[i]? = some e' := by simpa using r4
            obtain ⟨w', g1, g2⟩ := mapSet_run (P := P) h hg (clock2 := clock) (es2' := es'.modify i fun e => { e with key := key' }) (by
              rw [Array.toList_modify]
              exact p2.modify i (f := fun e => ⟨key, e.val, e.born⟩) fun a b hab => ⟨hab.born, hkey, hab.val⟩)
            refine ⟨_, _, E, _, w', h3, ?_, Ext.refl E, g2, pair_rel hv _⟩
            unfold Instr.mapEntry
            simp [Sem.run_bind, hu, hgo, checkKey_run hku htd, hf', r4', r1', stays_run r3 hkey r5.key, g1, goInt, r5.born]
      · exact h2.elim
  · exact h1.elim
theorem findIdx_rel {E : Env} (n : Int) : ∀ (es es' : List MapEntry), EsRel E es es' → es'.findIdx? (fun e => (e.born : Int) == n) = es.findIdx? (fun e => (e.born : Int) == n)
  | [], es', h => by have : es' = [] := by have := h.1; simpa using this.symm
                     subst this; rfl
  | e :: es, es', h => by
    obtain ⟨e', es'', rfl, he, hes⟩ := h.cons_inv
    simp only [List.findIdx?_cons, he.born, findIdx_rel n es es'' hes]
theorem entStK_sound (h : Rel w0 E H w) (ty : TypeId) {m m' s s' x x' : Value} {k : AHeap → Prop} (hm : VRel E m m') (hs : VRel E s s') (hx : VRel E x x') (hk : entStK m s x H k) :
    OutU P w0 E (Instr.entryStore ty m' s' x') w k := by
  unfold entStK at hk
  split at hk
  · rename_i r
    cases hm with
    | map _ hr =>
      split at hk
      · cases hs
        obtain ⟨o, hg, h2⟩ := heapK_elim hk
        split at h2
        · rename_i kk n _ es clock
          obtain ⟨i, hi, h3⟩ := bornK_elim h2
          obtain ⟨es', p1, p2⟩ := map_obj h hg
          have hgo : (getObj (E.b r)).run P w = .ok (.map es' clock) w := by simp [getObj, Sem.run, p1]
          obtain ⟨w', g1, g2⟩ := mapSet_run (P := P) h hg (clock2 := clock) (es2' := es'.modify i fun e => { e with val := x' }) (by
            rw [Array.toList_modify]
            exact p2.modify i (f := fun e => ⟨e.key, x, e.born⟩) fun a b hab => ⟨hab.born, hab.key, hx⟩)
          refine ⟨_, w', h3, ?_, g2⟩
          have hi' : es'.findIdx? (fun e => (e.born : Int) == n) = some i := by
            have e1 := List.findIdx?_toArray (fun e : MapEntry => (e.born : Int) == n) es'.toList
            rw [Array.toArray_toList] at e1
            rw [e1, findIdx_rel n _ _ p2]; exact hi
          unfold Instr.entryStore
          simp [Sem.run_bind, hgo, asInt, asIntOf, hi', g1]
        · exact h2.elim
      · exact hk.elim
  · exact hk.elim
theorem delK_sound (hT : TyOk P tt) (h : Rel w0 E H w) {ty rt : TypeId} {m m' key key' : Value} {k : AHeap → Prop} (hm : VRel E m m') (hkey : VRel E key key') {ats : Array TypeId} (hat : ats[0]? = some ty) (hk : delK tt ty m key H k) :
    OutV P w0 E (Builtin.delete_ ats rt #[m', key']) w fun v H' => v = .tuple #[] ∧ k H' := by
  obtain ⟨kt, et, ke, ee, hu, hkt, het, hde, h1⟩ := mapTy_elim (w := w) hT hk
  split at h1
  · cases hm
    obtain ⟨td, r, hd, hf, h2⟩ := findK_elim h1
    obtain ⟨hku, htd⟩ := key_run (w := w) hT hkt hd
    refine OutV.of h (v := .tuple #[]) (v' := .tuple #[]) ⟨rfl, h2⟩ ?_ (.any _)
    unfold Builtin.delete_
    simp [Sem.run_bind, hat, hu, checkKey_run hku htd]
  · rename_i r
    cases hm with
    | map _ hr =>
      obtain ⟨o, hg, h2⟩ := heapK_elim h1
      split at h2
      · rename_i es clock
        obtain ⟨td, res, hd, hf, h3⟩ := findK_elim h2
        obtain ⟨hku, htd⟩ := key_run (w := w) hT hkt hd
        obtain ⟨es', p1, p2⟩ := map_obj h hg
        have hgo : (getObj (E.b r)).run P w = .ok (.map es' clock) w := by simp [getObj, Sem.run, p1]
        obtain ⟨res', q1, q2, q3⟩ := findNow_rel hkey es es'.toList 0 res p2 hf
        have hf' := findKey_run (P := P) (w := w) hku q1
        cases res with
        | none =>
          cases res' with
          | some y => exact q2.elim
          | none =>
            obtain ⟨w', g1, g2⟩ := mapSet_run (P := P) h hg (clock2 := clock) (es2' := es') p2
            refine ⟨.tuple #[], _, E, .tuple #[], w', ⟨rfl, h3⟩, ?_, Ext.refl E, g2, .any _⟩
            unfold Builtin.delete_
            simp [Sem.run_bind, hat, hu, hgo, checkKey_run hku htd, hf', g1]
        | some y =>
          cases res' with
          | none => exact q2.elim
          | some y' =>
            obtain ⟨i, v⟩ := y
            obtain ⟨i', v'⟩ := y'
            obtain ⟨rfl, hv, _, hlt⟩ := q2
            obtain ⟨w', g1, g2⟩ := mapSet_run (P := P) h hg (clock2 := clock) (es2' := es'.eraseIdxIfInBounds i) (by
              rw [Array.toList_eraseIdxIfInBounds]
              exact p2.eraseIdx i)
            refine ⟨.tuple #[], _, E, .tuple #[], w', ⟨rfl, h3⟩, ?_, Ext.refl E, g2, .any _⟩
            unfold Builtin.delete_
            simp [Sem.run_bind, hat, hu, hgo, checkKey_run hku htd, hf', g1]
      · exact h2.elim
  · exact h1.elim
end
end Go.Abs
