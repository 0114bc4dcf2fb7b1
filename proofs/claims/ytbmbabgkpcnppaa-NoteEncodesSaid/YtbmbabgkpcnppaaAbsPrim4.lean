/- Soundness: append, copy, len, slices, conversions. -/
import Derived.Test.YtbmbabgkpcnppaaAbsPrim3
set_option linter.all false
namespace Go.Abs
open Go

section
variable {P : Program} {tt : Tab} {w0 : World} {E : Env} {H : AHeap} {w : World} {k : Value → AHeap → Prop}

theorem wrap_in (x : Int) (h1 : -9223372036854775808 ≤ x) (h2 : x ≤ 9223372036854775807) : IntKind.i64.wrap x = x := by
  have e1 : (2 : Int) ^ 64 = 18446744073709551616 := by decide
  have e2 : (2 : Int) ^ (64 - 1) = 9223372036854775808 := by decide
  unfold IntKind.wrap
  simp only [IntKind.bits, IntKind.signed, Bool.true_and, decide_eq_true_eq, e1, e2]
  by_cases h : 0 ≤ x
  · have : x % 18446744073709551616 = x := Int.emod_eq_of_lt h (by omega)
    rw [this, if_neg (by omega)]
  · have : x % 18446744073709551616 = x + 18446744073709551616 := by
      rw [← Int.add_emod_right, Int.emod_eq_of_lt (by omega) (by omega)]
    rw [this, if_pos (by omega)]; omega
theorem growBy_le (newLen : Nat) : ∀ (r c : Nat), 256 ≤ c → c ≤ 2 * newLen → Builtin.growBy newLen r c ≤ 2 * newLen
  | 0, c, _, h => by simpa [Builtin.growBy] using h
  | r + 1, c, h0, h => by
    simp only [Builtin.growBy]
    split
    · exact h
    · rename_i hlt
      exact growBy_le newLen r _ (by omega) (by omega)
theorem nextcap_le (newLen old : Nat) (h : old < newLen) : Builtin.nextslicecap newLen old ≤ 2 * newLen := by
  unfold Builtin.nextslicecap
  split
  · omega
  · split
    · omega
    · exact growBy_le _ _ _ (by omega) (by omega)
theorem zeroCells_size (z : Array Value) (n : Nat) : (Builtin.zeroCells z n).size = n * z.size := by simp [Builtin.zeroCells]

theorem seq_desc {d : TypeDesc} {td : TD} (h : DOk d td) (hs : td.seq = true) : (∃ e, d = .slice e) ∨ d = .string := by
  cases td <;> simp only [TD.seq] at hs <;> first | (simp only [DOk] at h; first | exact .inl ⟨_, h⟩ | exact .inr h) | (exact absurd hs (by decide))

structure AppArgs (P : Program) (tt : Tab) (w : World) (ty xty e : Nat) (te tx ee : TE) (argTypes : Array TypeId) : Prop where
  hT : TyOk P tt
  hty : tt[ty]? = some te
  hd : te.d = .slice e
  hxt : tt[xty]? = some tx
  hxs : tx.d.seq = true
  hee : tt[e]? = some ee
  hed : ee.d ≠ .other
  h0 : argTypes[0]? = some ty
  h1 : argTypes[1]? = some xty

theorem append_fits {ty xty e : Nat} {te tx ee : TE} {argTypes : Array TypeId} (A : AppArgs P tt w ty xty e te tx ee argTypes) (rt : TypeId) {base : Option Addr} {len cap n : Nat} {x : Value}
    (hn : (Builtin.lenOf x).run P w = .ok n w) {new' : Array Value} (hnew : (Builtin.firstCells ee.size n x).run P w = .ok new' w) (hle : len + n ≤ cap) {w' : World}
    (hst : match base with | some a => (storeCells (a.add (len * ee.size)) new'.toList).run P w = .ok () w' | none => w' = w) :
    (Builtin.append_ argTypes rt #[.slice base len cap, x]).run P w = .ok (.slice base (len + n) cap) w' := by
  obtain ⟨hT, hty, hd, hxt, hxs, hee, hed, h0, h1⟩ := A
  have hd' : te.d ≠ .other := by rw [hd]; simp
  obtain ⟨d, hu, hdk⟩ := run_und (w := w) hT hty hd'
  rw [hd] at hdk
  simp only [DOk] at hdk
  subst hdk
  obtain ⟨dx, hux, hdx⟩ := run_und (w := w) hT hxt (by intro hh; rw [hh] at hxs; exact absurd hxs (by simp [TD.seq]))
  have hsz := run_sizeOf (w := w) hT hee hed
  unfold Builtin.append_
  rcases seq_desc hdx hxs with ⟨ex, rfl⟩ | rfl <;>
    simp only [h0, h1, List.getElem?_toArray, List.getElem?_cons_zero, List.getElem?_cons_succ, Sem.run_bind, hu, Result.andThen_ok, hsz, hux, Sem.run_pure, Bool.false_eq_true, if_false, hn, hle, if_true,
      Bool.not_false, hnew] <;>
    cases base <;> simp only [] at hst <;> simp [hst]

theorem append_grows {ty xty e : Nat} {te tx ee : TE} {argTypes : Array TypeId} (A : AppArgs P tt w ty xty e te tx ee argTypes) (rt : TypeId) {base : Option Addr} {len cap n : Nat} {x : Value}
    (hn : (Builtin.lenOf x).run P w = .ok n w) (hlt : cap < len + n) (hb : (len + n) * (ee.bytes + 1) ≤ 35184372088832)
    {old' new' : Array Value} (hold : (Builtin.firstCells ee.size len (.slice base len cap)).run P { w with drawn := w.drawn + 1 } = .ok old' { w with drawn := w.drawn + 1 })
    (hnew : (Builtin.firstCells ee.size n x).run P { w with drawn := w.drawn + 1 } = .ok new' { w with drawn := w.drawn + 1 }) :
    ∃ newCap, len + n ≤ newCap ∧ (Builtin.append_ argTypes rt #[.slice base len cap, x]).run P w =
      ((newRow e (old' ++ new' ++ Builtin.zeroCells ee.zero.cells (newCap - (len + n)))).run P { w with drawn := w.drawn + 1 }).andThen fun a w' => .ok (.slice (some a) (len + n) newCap) w' := by
  obtain ⟨hT, hty, hd, hxt, hxs, hee, hed, h0, h1⟩ := A
  have hd' : te.d ≠ .other := by rw [hd]; simp
  obtain ⟨d, hu, hdk⟩ := run_und (w := w) hT hty hd'
  rw [hd] at hdk
  simp only [DOk] at hdk
  subst hdk
  obtain ⟨dx, hux, hdx⟩ := run_und (w := w) hT hxt (by intro hh; rw [hh] at hxs; exact absurd hxs (by simp [TD.seq]))
  have hsz := run_sizeOf (w := w) hT hee hed
  obtain ⟨ti, hti, htb, _⟩ := run_typeInfo (w := w) hT hee hed
  obtain ⟨ti', hti', htb', _⟩ := run_typeInfo (w := { w with drawn := w.drawn + 1 }) hT hee hed
  have hz := run_zeroValue (w := { w with drawn := w.drawn + 1 }) hT hee hed
  have hle : ¬ (len + n ≤ cap) := by omega
  have hneed : len + n ≤ 35184372088832 := Nat.le_trans (Nat.le_mul_of_pos_right _ (by omega)) hb
  have hmax : ¬ (((len + n : Nat) : Int) > IntKind.i64.max) := by
    have : IntKind.i64.max = 9223372036854775807 := by decide
    omega
  have hcap : ¬ (Builtin.nextslicecap (len + n) cap * ti.bytes > 2 ^ 48) := by
    have h1 := nextcap_le (len + n) cap hlt
    have h2 : Builtin.nextslicecap (len + n) cap * ti.bytes ≤ 2 * (len + n) * (ee.bytes + 1) := Nat.mul_le_mul h1 (by omega)
    have h3 : 2 * (len + n) * (ee.bytes + 1) = 2 * ((len + n) * (ee.bytes + 1)) := Nat.mul_assoc _ _ _
    have : (2 : Nat) ^ 48 = 281474976710656 := by decide
    omega
  refine ⟨(Question.appendCap (len + n) cap e).cut (w.tape w.drawn (.appendCap (len + n) cap e)), by simp only [Question.cut]; exact Nat.le_add_right _ _, ?_⟩
  unfold Builtin.append_
  rcases seq_desc hdx hxs with ⟨ex, rfl⟩ | rfl <;>
    simp only [h0, h1, List.getElem?_toArray, List.getElem?_cons_zero, List.getElem?_cons_succ, Sem.run_bind, hu, Result.andThen_ok, hsz, hux, Sem.run_pure, Bool.false_eq_true, if_false, hn, hle, hti, hmax, false_and, hcap,
      run_choose, Question.forced, hti', run_askRoom, hold, Bool.not_false, if_true, hnew, hz]

theorem append_core {e : Nat} {ee : TE} {argTypes : Array TypeId} (hzs : ee.zero.cells.size = ee.size) (h : Rel w0 E H w) (rt : TypeId) {s s' x' : Value} (hs : VRel E s s') {n : Nat} {new : List Value} {new' new1 : Array Value}
    (hlen : new.length = n * ee.size) (hrel : LRel E new new') (hones : Ones new') (hrel1 : LRel E new new1) (hones1 : Ones new1)
    (fits : ∀ {base : Option Addr} {len cap : Nat} {w' : World}, len + n ≤ cap → (match base with | some a => (storeCells (a.add (len * ee.size)) new'.toList).run P w = .ok () w' | none => w' = w) →
      (Builtin.append_ argTypes rt #[.slice base len cap, x']).run P w = .ok (.slice base (len + n) cap) w')
    (grows : ∀ {base : Option Addr} {len cap : Nat} {old' : Array Value}, cap < len + n → (len + n) * (ee.bytes + 1) ≤ 35184372088832 → (Builtin.firstCells ee.size len (.slice base len cap)).run P { w with drawn := w.drawn + 1 } = .ok old' { w with drawn := w.drawn + 1 } →
      ∃ newCap, len + n ≤ newCap ∧ (Builtin.append_ argTypes rt #[.slice base len cap, x']).run P w =
        ((newRow e (old' ++ new1 ++ Builtin.zeroCells ee.zero.cells (newCap - (len + n)))).run P { w with drawn := w.drawn + 1 }).andThen fun a w' => .ok (.slice (some a) (len + n) newCap) w')
    (hk : appTailK ee n new s H k) : OutV P w0 E (Builtin.append_ argTypes rt #[s', x']) w k := by
  have hdr : Rel w0 E H { w with drawn := w.drawn + 1 } := h.drew _
  -- a new row
  have grow : ∀ {base : Option Addr} {len cap : Nat} {old : List Value} {old' : Array Value} {H' : AHeap} (hR : Rel w0 E H' { w with drawn := w.drawn + 1 }) (hlt : cap < len + n)
      (hb : (len + n) * (ee.bytes + 1) ≤ 35184372088832) (hold : (Builtin.firstCells ee.size len (.slice base len cap)).run P { w with drawn := w.drawn + 1 } = .ok old' { w with drawn := w.drawn + 1 })
      (ho : LRel E old old') (hoo : Ones old') (hk : k (.slice (some ⟨H'.size, 0, none⟩) (len + n) (len + n)) (H'.push (.cells (old ++ new) true ee.size))),
      OutV P w0 E (Builtin.append_ argTypes rt #[.slice base len cap, x']) w k := by
    intro base len cap old old' H' hR hlt hb hold ho hoo hk
    obtain ⟨newCap, hcap, hrun⟩ := grows hlt hb hold
    obtain ⟨w', hw1, hw2⟩ := hR.newCells (P := P) (ho.append hrel1) (hoo.append hones1) e (Builtin.zeroCells ee.zero.cells (newCap - (len + n))) (newCap - (len + n)) ee.size (by rw [zeroCells_size, hzs]; exact Nat.le_refl _)
    refine ⟨_, _, _, _, w', hk, by rw [hrun, hw1]; rfl, Ext.push _ _ _ _, hw2, ?_⟩
    have hsz : H'.size = E.n := hR.n.symm
    have := VRel.newSlice E w.heap.size 0 (newCap - (len + n)) (len + n) (len + n)
    rw [show len + n + (newCap - (len + n)) = newCap by omega] at this
    rw [hsz]; exact this
  cases hs <;> first | exact hk.elim | skip
  case sliceNil =>
    have hk0 : condK _ _ _ := hk
    clear hk
    rcases condK_elim hk0 with ⟨hn0, hk⟩ | ⟨hn0, hk⟩ <;> clear hk0
    · have hn0 := Nat.eq_of_beq_eq_true hn0
      subst hn0
      exact ⟨_, H, E, _, w, hk, fits (base := none) (w' := w) (by simp) rfl, Ext.refl E, h, .sliceNil⟩
    · obtain ⟨hb, hk⟩ := reqK_elim hk
      have hb' : n * (ee.bytes + 1) ≤ 35184372088832 := by simpa using hb
      have hpos : 0 < n := by
        rcases Nat.eq_zero_or_pos n with hz | hz
        · subst hz; simp at hn0
        · exact hz
      exact grow (old := []) (old' := #[]) hdr (by omega) (by simpa using hb') rfl (LRel.nil E) Ones.nil (by simpa using hk)
  case slice i off len cap hlt =>
      obtain ⟨c, hc, hup, hk⟩ := ownK_elim hk
      obtain ⟨c0, own0, sz0, hc0, hl0, hk⟩ := loadsK_elim hk
      rw [hc] at hc0; cases hc0
      obtain ⟨hb, hk⟩ := reqK_elim hk
      have hb' : len ≤ cap ∧ (len + n) * (ee.bytes + 1) ≤ 35184372088832 := by simpa using hb
      obtain ⟨hlc, hb2⟩ := hb'
      have hsz : H.size = E.n := h.n.symm
      obtain ⟨hlive, hbw, _⟩ := h.obj i _ hc
      obtain ⟨hown0, hown1⟩ := h.own i _ hc rfl
      by_cases hfit : len + n ≤ cap + E.s i
      · -- in place
        obtain ⟨c', el, fr, p1, p2, p3, p4⟩ := h.cells hc (.inr rfl)
        obtain ⟨p5, p6⟩ := p3 rfl
        have hn' : new'.toList.length = n * ee.size := by rw [← hlen]; simpa using hrel.size.symm
        have hmul : (len + n) * ee.size ≤ (cap + E.s i) * ee.size := Nat.mul_le_mul_right _ hfit
        rw [Nat.add_mul, Nat.add_mul] at hmul
        obtain ⟨w', c'', a1, a2, a3, a4⟩ := run_storeCells (P := P) (b := E.b i) (o := E.d i + off + len * ee.size) new'.toList 0 c' w p1 (by omega)
          (fun q hq => by have := p6 (off + len * ee.size + q) (by omega); rwa [show E.d i + off + len * ee.size + 0 + q = E.d i + (off + len * ee.size + q) by omega]) hones.mem
        have hR := h.writeDead hc rfl a2.size a2.tape a2.os a2.output a2.same
        have hR2 := hR.pushAt (E.b i) (E.d i + off) (cap + E.s i - (len + n)) (.cells (((c.drop off).take (len * ee.size)) ++ new) true ee.size) (by rw [a2.size]; exact hbw) hown0
          (fun j o' hj => by
            by_cases hji : j = i
            · subst hji; rw [AHeap.kill_same] at hj; cases hj
            · rw [AHeap.kill_ne H hji] at hj; exact hown1 j o' hj hji) ?_
        · refine ⟨_, _, _, _, w', hk, fits hfit (by simpa [add_mk] using a1), Ext.push _ _ _ _, hR2, ?_⟩
          have := VRel.newSlice E (E.b i) (E.d i + off) (cap + E.s i - (len + n)) (len + n) (len + n)
          rw [show len + n + (cap + E.s i - (len + n)) = cap + E.s i by omega] at this
          rw [hsz]; exact this
        · have e1 : (E.push (E.b i) (E.d i + off) (cap + E.s i - (len + n))).b (H.kill i).size = E.b i := by simp [Env.push, hsz]
          have e2 : (E.push (E.b i) (E.d i + off) (cap + E.s i - (len + n))).d (H.kill i).size = E.d i + off := by simp [Env.push, hsz]
          have e3 : (E.push (E.b i) (E.d i + off) (cap + E.s i - (len + n))).s (H.kill i).size = cap + E.s i - (len + n) := by simp [Env.push, hsz]
          have hol : ((c.drop off).take (len * ee.size)).length = len * ee.size := by simp; omega
          have hsub : (cap + E.s i - (len + n)) * ee.size = (cap + E.s i) * ee.size - (len + n) * ee.size := Nat.sub_mul _ _ _
          rw [Nat.add_mul, Nat.add_mul] at hsub
          refine .inr ⟨c'', el, fr, by rw [e1]; exact a2.at_, fun q v hv => ?_, fun _ => ⟨?_, fun q hq => ?_⟩⟩
          · rw [e2]
            rw [List.getElem?_append] at hv
            rw [a4]
            split at hv
            · rename_i hq
              rw [hol] at hq
              rw [if_neg (by omega)]
              rw [List.getElem?_take_of_lt hq, List.getElem?_drop] at hv
              obtain ⟨v', r1, r2, r3⟩ := p2 _ v hv
              exact ⟨v', by rw [Nat.add_assoc]; exact r1, r2.mono (Ext.push _ _ _ _), r3⟩
            · rename_i hq
              rw [hol] at hq hv
              have hqn : q - len * ee.size < n * ee.size := by rw [← hlen]; exact (List.getElem?_eq_some_iff.1 hv).1
              rw [if_pos (by omega)]
              obtain ⟨v', r1, r2⟩ := hrel.getElem? hv
              refine ⟨v', ?_, r2.mono (Ext.push _ _ _ _), hones _ _ r1⟩
              rw [show E.d i + off + q - (E.d i + off + len * ee.size + 0) = q - len * ee.size by omega]
              simpa using r1
          · rw [e2, e3, List.length_append, hol, hlen, a3]; omega
          · rw [e3, List.length_append, hol, hlen] at hq
            rw [e2]
            have := p6 (off + q) (by omega)
            rwa [show E.d i + off + q = E.d i + (off + q) by omega]
      · -- a new row
        have hRk : Rel w0 E (H.kill i) { w with drawn := w.drawn + 1 } := hdr.kill i
        obtain ⟨old', q1, q2, q3⟩ := run_loadCells_of (P := P) hdr hc hl0
        exact grow (old := (c.drop off).take (len * ee.size)) (old' := old') hRk (by omega) hb2 q1 q2 q3 hk
  case slice0 i off x0 hlt hs0 =>
      obtain ⟨c, hc, hup, hk⟩ := ownK_elim hk
      obtain ⟨c0, own0, sz0, hc0, hl0, hk⟩ := loadsK_elim hk
      rw [hc] at hc0; cases hc0
      obtain ⟨hb, hk⟩ := reqK_elim hk
      have hb' : 0 ≤ 0 ∧ (0 + n) * (ee.bytes + 1) ≤ 35184372088832 := by simpa using hb
      obtain ⟨hlc, hb2⟩ := hb'
      have hsz : H.size = E.n := h.n.symm
      obtain ⟨hlive, hbw, _⟩ := h.obj i _ hc
      obtain ⟨hown0, hown1⟩ := h.own i _ hc rfl
      rcases Nat.eq_zero_or_pos n with hz | hz
      · subst hz
        obtain ⟨c', el, fr, p1, p2, p3, p4⟩ := h.cells hc (.inr rfl)
        have hnil : new = [] := List.length_eq_zero_iff.1 (by simpa using hlen)
        have hnil' : new' = #[] := by
          have := hrel.size
          rw [hnil] at this
          simpa using this.symm
        have hR2 := (h.kill i).pushAt (E.b i) 0 0 (.cells (((c.drop off).take (0 * ee.size)) ++ new) true ee.size) hbw hown0
          (fun j o' hj => by
            by_cases hji : j = i
            · subst hji; rw [AHeap.kill_same] at hj; cases hj
            · rw [AHeap.kill_ne H hji] at hj; exact hown1 j o' hj hji) ?_
        · refine ⟨_, _, _, _, w, hk, fits (w' := w) (by simp) (by rw [hnil']; rfl), Ext.push _ _ _ _, hR2, ?_⟩
          have := VRel.slice0 (E := E.push (E.b i) 0 0) E.n 0 x0 (by simp [Env.push]) (by simp [Env.push])
          rw [hsz]
          simpa [Env.push] using this
        · have e1 : (E.push (E.b i) 0 0).b (H.kill i).size = E.b i := by simp [Env.push, hsz]
          refine .inr ⟨c', el, fr, by rw [e1]; exact p1, fun q v hv => ?_, fun _ => ⟨?_, fun q hq => ?_⟩⟩
          · simp [hnil] at hv
          · simp [hnil, Env.push, hsz]
          · simp [hnil, Env.push, hsz] at hq
      · have hRk : Rel w0 E (H.kill i) { w with drawn := w.drawn + 1 } := hdr.kill i
        exact grow (old := (c.drop off).take (0 * ee.size)) (old' := #[]) hRk (by omega) hb2 (by simp [Builtin.firstCells, loadCells, loadCellsFrom]) (by simp; exact LRel.nil E) Ones.nil hk
theorem append_fits_i {ty xty e : Nat} {te tx ee : TE} {argTypes : Array TypeId} {kk kx : IntKind} (hT : TyOk P tt) (hty : tt[ty]? = some te) (hd : te.d = .slice e) (hxt : tt[xty]? = some tx) (hxs : tx.d = .int kk) (hee : tt[e]? = some ee) (hed : ee.d ≠ .other)
    (h0 : argTypes[0]? = some ty) (h1 : argTypes[1]? = some xty) (rt : TypeId) {base : Option Addr} {len cap : Nat} {l : Int} (hl : 0 ≤ l) (hlb : l * (ee.bytes + 1) ≤ 35184372088832) (hle : len + l.toNat ≤ cap) {w' : World}
    (hst : match base with | some a => (storeCells (a.add (len * ee.size)) (if l.toNat * ee.size = 0 then #[] else Builtin.zeroCells ee.zero.cells l.toNat).toList).run P w = .ok () w' | none => w' = w) :
    (Builtin.append_ argTypes rt #[.slice base len cap, .int kx l]).run P w = .ok (.slice base (len + l.toNat) cap) w' := by
  have hd' : te.d ≠ .other := by rw [hd]; simp
  obtain ⟨d, hu, hdk⟩ := run_und (w := w) hT hty hd'
  rw [hd] at hdk
  simp only [DOk] at hdk
  subst hdk
  obtain ⟨dx, hux, hdx⟩ := run_und (w := w) hT hxt (by rw [hxs]; simp)
  rw [hxs] at hdx
  simp only [DOk] at hdx
  subst hdx
  have hsz := run_sizeOf (w := w) hT hee hed
  obtain ⟨ti, hti, htb, _⟩ := run_typeInfo (w := w) hT hee hed
  have hlb1 : l ≤ 35184372088832 := by
    have : l * 1 ≤ l * (ee.bytes + 1) := Int.mul_le_mul_of_nonneg_left (by omega) hl
    omega
  have hlb2 : l * ee.bytes ≤ 35184372088832 := by
    have : l * (ee.bytes : Int) ≤ l * (ee.bytes + 1) := Int.mul_le_mul_of_nonneg_left (by omega) hl
    omega
  have hwrap : IntKind.i64.wrap l = l := wrap_in l (by omega) (by omega)
  have hneg : ¬ l < 0 := by omega
  have hbig : ¬ (l * (ti.bytes : Int) > 2 ^ 48) := by
    have : (2 : Int) ^ 48 = 281474976710656 := by decide
    rw [htb]; omega
  have hasx : (asInt (.int kx l)).run P w = .ok l w := by simp [asInt, asIntOf]
  have hz := run_zeroValue (w := w) hT hee hed
  unfold Builtin.append_
  simp only [h0, h1, List.getElem?_toArray, List.getElem?_cons_zero, List.getElem?_cons_succ, Sem.run_bind, hu, Result.andThen_ok, hsz, hux, Sem.run_pure, if_true, hasx, hwrap, hneg, if_false, hti, hbig, Bool.not_true, Bool.false_eq_true, hle]
  by_cases hn : l.toNat * ee.size = 0
  · simp only [hn, if_true] at hst
    cases base <;> simp only [] at hst <;> simp [hn, hst]
  · simp only [hn, if_false] at hst
    cases base <;> simp only [] at hst <;> simp [hn, hz, hst]
theorem append_grows_i {ty xty e : Nat} {te tx ee : TE} {argTypes : Array TypeId} {kk kx : IntKind} (hT : TyOk P tt) (hty : tt[ty]? = some te) (hd : te.d = .slice e) (hxt : tt[xty]? = some tx) (hxs : tx.d = .int kk) (hee : tt[e]? = some ee) (hed : ee.d ≠ .other)
    (h0 : argTypes[0]? = some ty) (h1 : argTypes[1]? = some xty) (rt : TypeId) {base : Option Addr} {len cap : Nat} {l : Int} (hl : 0 ≤ l) (hlb : l * (ee.bytes + 1) ≤ 35184372088832) (hlt : cap < len + l.toNat) (hb : (len + l.toNat) * (ee.bytes + 1) ≤ 35184372088832)
    {old' : Array Value} (hold : (Builtin.firstCells ee.size len (.slice base len cap)).run P { w with drawn := w.drawn + 1 } = .ok old' { w with drawn := w.drawn + 1 }) :
    ∃ newCap, len + l.toNat ≤ newCap ∧ (Builtin.append_ argTypes rt #[.slice base len cap, .int kx l]).run P w =
      ((newRow e (old' ++ (if l.toNat * ee.size = 0 then #[] else Builtin.zeroCells ee.zero.cells l.toNat) ++ Builtin.zeroCells ee.zero.cells (newCap - (len + l.toNat)))).run P { w with drawn := w.drawn + 1 }).andThen fun a w' => .ok (.slice (some a) (len + l.toNat) newCap) w' := by
  have hd' : te.d ≠ .other := by rw [hd]; simp
  obtain ⟨d, hu, hdk⟩ := run_und (w := w) hT hty hd'
  rw [hd] at hdk
  simp only [DOk] at hdk
  subst hdk
  obtain ⟨dx, hux, hdx⟩ := run_und (w := w) hT hxt (by rw [hxs]; simp)
  rw [hxs] at hdx
  simp only [DOk] at hdx
  subst hdx
  have hsz := run_sizeOf (w := w) hT hee hed
  obtain ⟨ti, hti, htb, _⟩ := run_typeInfo (w := w) hT hee hed
  have hlb1 : l ≤ 35184372088832 := by
    have : l * 1 ≤ l * (ee.bytes + 1) := Int.mul_le_mul_of_nonneg_left (by omega) hl
    omega
  have hlb2 : l * ee.bytes ≤ 35184372088832 := by
    have : l * (ee.bytes : Int) ≤ l * (ee.bytes + 1) := Int.mul_le_mul_of_nonneg_left (by omega) hl
    omega
  have hwrap : IntKind.i64.wrap l = l := wrap_in l (by omega) (by omega)
  have hneg : ¬ l < 0 := by omega
  have hbig : ¬ (l * (ti.bytes : Int) > 2 ^ 48) := by
    have : (2 : Int) ^ 48 = 281474976710656 := by decide
    rw [htb]; omega
  have hasx : (asInt (.int kx l)).run P w = .ok l w := by simp [asInt, asIntOf]
  obtain ⟨ti', hti', htb', _⟩ := run_typeInfo (w := { w with drawn := w.drawn + 1 }) hT hee hed
  have hz := run_zeroValue (w := { w with drawn := w.drawn + 1 }) hT hee hed
  generalize hnn : l.toNat = n at *
  have hle : ¬ (len + n ≤ cap) := by omega
  have hneed : len + n ≤ 35184372088832 := Nat.le_trans (Nat.le_mul_of_pos_right _ (by omega)) hb
  have hmax : ¬ (((len + n : Nat) : Int) > IntKind.i64.max) := by
    have : IntKind.i64.max = 9223372036854775807 := by decide
    omega
  have hcap : ¬ (Builtin.nextslicecap (len + n) cap * ti.bytes > 2 ^ 48) := by
    have h1 := nextcap_le (len + n) cap hlt
    have h2 : Builtin.nextslicecap (len + n) cap * ti.bytes ≤ 2 * (len + n) * (ee.bytes + 1) := Nat.mul_le_mul h1 (by omega)
    have h3 : 2 * (len + n) * (ee.bytes + 1) = 2 * ((len + n) * (ee.bytes + 1)) := Nat.mul_assoc _ _ _
    have : (2 : Nat) ^ 48 = 281474976710656 := by decide
    omega
  refine ⟨(Question.appendCap (len + n) cap e).cut (w.tape w.drawn (.appendCap (len + n) cap e)), by simp only [Question.cut]; exact Nat.le_add_right _ _, ?_⟩
  unfold Builtin.append_
  by_cases hn : n * ee.size = 0
  · simp only [h0, h1, List.getElem?_toArray, List.getElem?_cons_zero, List.getElem?_cons_succ, Sem.run_bind, hu, Result.andThen_ok, hsz, hux, Sem.run_pure, if_true, hasx, hwrap, hneg, if_false, hti, hbig, Bool.not_true, Bool.false_eq_true, hnn, hle, hmax, false_and, hcap,
      run_choose, Question.forced, hti', run_askRoom, hold, hn, hz]
  · simp only [h0, h1, List.getElem?_toArray, List.getElem?_cons_zero, List.getElem?_cons_succ, Sem.run_bind, hu, Result.andThen_ok, hsz, hux, Sem.run_pure, if_true, hasx, hwrap, hneg, if_false, hti, hbig, Bool.not_true, Bool.false_eq_true, hnn, hle, hmax, false_and, hcap,
      run_choose, Question.forced, hti', run_askRoom, hold, hn, hz]
theorem appendK_sound {ty xty : Nat} {argTypes : Array TypeId} (hT : TyOk P tt) (h : Rel w0 E H w) (h0 : argTypes[0]? = some ty) (h1 : argTypes[1]? = some xty) (rt : TypeId) {s s' x x' : Value}
    (hs : VRel E s s') (hx : VRel E x x') (hk : appendK tt ty xty s x H k) : OutV P w0 E (Builtin.append_ argTypes rt #[s', x']) w k := by
  obtain ⟨tx, hxt, hk1⟩ := tyK_elim hk
  clear hk
  split at hk1
  · rename_i kk hxs
    obtain ⟨te, hty, hk3⟩ := tyK_elim hk1
    split at hk3
    case h_2 => exact hk3.elim
    rename_i e hd
    obtain ⟨ee, hee, hk4⟩ := tyK_elim hk3
    obtain ⟨hed, hk5⟩ := okK_elim hk4
    split at hk5
    case h_2 => exact hk5.elim
    rename_i kx l
    cases hx
    obtain ⟨hb, hk6⟩ := reqK_elim hk5
    simp only [Bool.and_eq_true, decide_eq_true_eq] at hb
    obtain ⟨z1, z2, z3, z4⟩ := zero_rel hT hee hed E
    have hzr := zeroRow_rel z2 l.toNat
    have hzo := zeroRow_ones z4 l.toNat
    have hzl := zeroRow_length ee.zero.cells.toList l.toNat
    have hsz : ee.zero.cells.toList.length = ee.size := by simpa using z3
    have hnew : LRel E (zeroRow l.toNat ee.zero.cells.toList) (if l.toNat * ee.size = 0 then #[] else Builtin.zeroCells ee.zero.cells l.toNat) ∧ Ones (if l.toNat * ee.size = 0 then #[] else Builtin.zeroCells ee.zero.cells l.toNat) := by
      by_cases hz : l.toNat * ee.size = 0
      · rw [if_pos hz]
        have : zeroRow l.toNat ee.zero.cells.toList = [] := List.length_eq_zero_iff.1 (by rw [hzl, hsz]; exact hz)
        rw [this]
        exact ⟨LRel.nil E, Ones.nil⟩
      · rw [if_neg hz]; exact ⟨hzr, hzo⟩
    exact append_core (e := e) (by rw [z3]) h rt hs (by rw [hzl, hsz]) hnew.1 hnew.2 hnew.1 hnew.2 (fun hle hst => append_fits_i hT hty hd hxt hxs hee hed h0 h1 rt hb.1 hb.2 hle hst) (fun hlt hb2 hold => append_grows_i hT hty hd hxt hxs hee hed h0 h1 rt hb.1 hb.2 hlt hb2 hold) hk6
  · obtain ⟨hxs, _, hk2⟩ := bothK_elim hk1
    clear hk1
    obtain ⟨te, hty, hk3⟩ := tyK_elim hk2
    clear hk2
    split at hk3
    case h_2 => exact hk3.elim
    rename_i e hd
    obtain ⟨ee, hee, hk4⟩ := tyK_elim hk3
    clear hk3
    obtain ⟨hed, hk5⟩ := okK_elim hk4
    clear hk4
    have A : AppArgs P tt w ty xty e te tx ee argTypes := ⟨hT, hty, hd, hxt, hxs, hee, hed, h0, h1⟩
    obtain ⟨n, new, hk, hlen, hsrc⟩ := src_elim (P := P) hx hk5
    clear hk5
    obtain ⟨hn, hnew⟩ := hsrc w0 w h
    obtain ⟨new', hnew, hrel, hones⟩ := hnew n (Nat.le_refl _)
    rw [List.take_of_length_le (by omega)] at hrel
    obtain ⟨_, hnew1⟩ := hsrc w0 _ (h.drew (w.drawn + 1))
    obtain ⟨new1, hnew1, hrel1, hones1⟩ := hnew1 n (Nat.le_refl _)
    rw [List.take_of_length_le (by omega)] at hrel1
    have hzs : ee.zero.cells.size = ee.size := (hT e ee hee hed).zsize
    exact append_core (e := e) hzs h rt hs hlen hrel hones hrel1 hones1 (fun hle hst => append_fits A rt hn hnew hle hst) (fun hlt hb2 hold => append_grows A rt hn hlt hb2 hold hnew1) hk
end
end Go.Abs
