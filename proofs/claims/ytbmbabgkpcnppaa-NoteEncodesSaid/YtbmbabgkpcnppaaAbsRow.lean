/- From a law's walk to its row. -/
import Derived.Test.YtbmbabgkpcnppaaAbsReads
import Derived.ProofKit
import Derived.DataShut
set_option linter.all false
namespace Go.Abs
open Go Go.Deep Go.WideShapes Go.ChangeShapes Go.RowKit

section
variable {DH : Type} {enc : TypeId × Value → DH} {tt : Tab} {P : Program}

theorem mapM_of_get {α β : Type} {f : α → Option β} {l : List α} {r : List β} (hl : l.length = r.length) (h : ∀ (i : Nat) (hi : i < l.length), f l[i] = some (r[i]'(hl ▸ hi))) : l.mapM f = some r := by
  refine Go.mapM_some_of_get l r hl.symm fun i x hx => ?_
  obtain ⟨hi, rfl⟩ := List.getElem?_eq_some_iff.1 hx
  rw [h i hi, List.getElem?_eq_getElem]
/-- reading asks of spare places only where they are -/
theorem trod_respare (hT : TyOk P tt) {w : World} {sp : Nat → Bool} : ∀ (m : Nat) (t : TypeId) (fuel : Nat) (cs : List Value) (x : DataW DH × List MemPlace), dataTy tt m t = true →
    DataW.trod enc P w 0 (fun _ => true) true fuel t cs = some x → (∀ p ∈ x.2, sp p.block = true) → DataW.trod enc P w 0 sp true fuel t cs = some x
  | 0, _, _, _, _, h, _, _ => by simp [dataTy] at h
  | _ + 1, _, 0, _, _, _, h, _ => by simp [DataW.trod] at h
  | m + 1, t, fuel + 1, cs, x, hd, h, hs => by
    have ih := trod_respare hT (w := w) (sp := sp) m
    obtain ⟨e, he, hne⟩ := dataTy_ne hd
    obtain ⟨_, ⟨td, hu, hdk⟩, _, _, _⟩ := hT t e he hne
    unfold dataTy at hd
    rw [he] at hd
    simp only at hd
    cases hed : e.d <;> rw [hed] at hd <;> simp only at hd <;> rw [hed] at hdk <;> simp only [DOk] at hdk <;> try (exact Bool.noConfusion hd)
    case bool =>
      subst hdk
      obtain ⟨b, rfl, hx⟩ := DataW.trod_bool hu h
      simp [DataW.trod, hu, hx]
    case int k =>
      subst hdk
      obtain ⟨n, rfl, hx, hw⟩ := DataW.trod_int hu h
      simp [DataW.trod, hu, hx, hw]
    case string =>
      subst hdk
      obtain ⟨s, rfl, hx, hs⟩ := DataW.trod_string hu h
      simp [DataW.trod, hu, hx, hs]
    case slice el =>
      subst hdk
      simp only [Bool.and_eq_true] at hd
      obtain ⟨⟨_, hel⟩, hsz⟩ := hd
      obtain ⟨ee, hee, hnee⟩ := dataTy_ne hel
      rw [hee] at hsz
      have hcel := cellsOf_tt (P := P) hT hee hnee
      have hpos : 0 < P.cellsOf el := by
        rw [hcel]
        rcases Nat.eq_zero_or_pos ee.size with h | h
        · simp [h] at hsz
        · exact h
      rcases DataW.trod_slice hu h with ⟨rfl, hx⟩ | ⟨a, len, cap, elems, rest, n, hn, rfl, rfl, hb, hl, hm, hlen, hel1, hsp1, _⟩
      · simp [DataW.trod, hu, hx]
      · cases hn
        obtain ⟨hrl, hsp1⟩ := hsp1 rfl
        have one : ∀ (i : Nat) (y : DataW DH × List MemPlace), y ∈ elems ++ rest → ((w.cells? 0 (a.add (i * P.cellsOf el)) (P.cellsOf el)).bind (DataW.trod enc P w 0 (fun _ => true) true fuel el)) = some y →
            ((w.cells? 0 (a.add (i * P.cellsOf el)) (P.cellsOf el)).bind (DataW.trod enc P w 0 sp true fuel el)) = some y := by
          intro i y hy h1
          obtain ⟨cs', h2, h3⟩ := Option.bind_eq_some_iff.1 h1
          rw [h2]
          refine ih el fuel cs' y hel h3 fun p hp => hs p ?_
          exact List.mem_append_right _ (List.mem_flatMap.2 ⟨y, hy, hp⟩)
        have e1 : (List.range len).mapM (fun i => (w.cells? 0 (a.add (i * P.cellsOf el)) (P.cellsOf el)).bind (DataW.trod enc P w 0 sp true fuel el)) = some elems := by
          refine mapM_of_get (by simp [hlen]) fun i hi => ?_
          rw [List.length_range] at hi
          rw [List.getElem_range, ← List.getElem?_eq_getElem]
          have h1 := hel1 i hi
          rw [List.getElem?_eq_getElem (hlen ▸ hi)] at h1 ⊢
          exact one i _ (List.mem_append_left _ (List.getElem_mem _)) h1
        have e2 : (if sp a.block then (List.range (cap - len)).mapM (fun j => (w.cells? 0 (a.add ((len + j) * P.cellsOf el)) (P.cellsOf el)).bind (DataW.trod enc P w 0 sp true fuel el)) else some []) = some rest := by
          have hm2 : (List.range (cap - len)).mapM (fun j => (w.cells? 0 (a.add ((len + j) * P.cellsOf el)) (P.cellsOf el)).bind (DataW.trod enc P w 0 sp true fuel el)) = some rest := by
            refine mapM_of_get (by simp [hrl]) fun j hj => ?_
            rw [List.length_range] at hj
            rw [List.getElem_range, ← List.getElem?_eq_getElem]
            have h1 := hsp1 j hj
            rw [List.getElem?_eq_getElem (hrl ▸ hj)] at h1 ⊢
            exact one (len + j) _ (List.mem_append_right _ (List.getElem_mem _)) h1
          by_cases hcl : cap = len
          · subst hcl
            have : rest = [] := List.length_eq_zero_iff.1 (by omega)
            subst this
            split
            · exact hm2
            · rfl
          · have : sp a.block = true := by
              refine hs (.cell a.block (a.off + 0)) (List.mem_append_left _ (MemPlace.mem_row.2 ⟨0, ?_, rfl⟩))
              have : 0 < elems.length + rest.length := by omega
              exact Nat.mul_pos this hpos
            rw [if_pos this]
            exact hm2
        unfold DataW.trod
        rw [hu]
        simp only
        rw [if_pos ⟨hb, hl, hm⟩, e1]
        simp only [Option.bind_some]
        rw [e2]
        rfl
    case struct fs =>
      obtain ⟨gs, rfl, hfl, hfs⟩ := hdk
      simp only [Bool.and_eq_true, List.all_eq_true] at hd
      obtain ⟨xs, n, hn, rfl, hcl, hxl, hg⟩ := DataW.trod_struct hu h
      cases hn
      refine trod_struct_mk hu hcl (mapM_of_get (by simp [hxl]) fun i hi => ?_)
      have hi' : i < gs.size := by simpa using hi
      have hgi : gs[i]? = some gs[i] := by simp [hi']
      have h1 := hg i _ hgi
      rw [List.getElem?_eq_getElem (hxl ▸ hi')] at h1
      obtain ⟨o, tf⟩ := fs[i]'(by omega)
      have hfi : fs[i]? = some (fs[i]'(by omega)) := by simp
      obtain ⟨g, hg1, ho, htf⟩ := hfs i (fs[i]'(by omega)).1 (fs[i]'(by omega)).2 hfi
      rw [hgi] at hg1
      cases hg1
      have := ih gs[i].type fuel _ _ (by rw [htf]; exact hd.2 _ (List.getElem_mem _)) h1 (fun p hp => hs p (List.mem_flatMap.2 ⟨_, List.getElem_mem _, hp⟩))
      simpa using this
    case arr k el =>
      subst hdk
      simp only [Bool.and_eq_true] at hd
      obtain ⟨xs, n, hn, rfl, hcl, hxl, hg⟩ := DataW.trod_array hu h
      cases hn
      unfold DataW.trod
      rw [hu]
      have : (List.range k).mapM (fun i => DataW.trod enc P w 0 sp true fuel el ((cs.drop (i * P.cellsOf el)).take (P.cellsOf el))) = some xs := by
        refine mapM_of_get (by simp [hxl]) fun i hi => ?_
        rw [List.length_range] at hi
        rw [List.getElem_range]
        have h1 := hg i hi
        rw [List.getElem?_eq_getElem (hxl ▸ hi)] at h1
        exact ih el fuel _ _ hd.1 h1 (fun p hp => hs p (List.mem_flatMap.2 ⟨_, List.getElem_mem _, hp⟩))
      split <;> simp_all

def ReadsArg (tt : Tab) (H : AHeap) (t : TypeId) (v : Value) (d : DataW DH) : Prop :=
  ∃ e, tt[t]? = some e ∧ (match e.d.agg with
    | true => ∃ acs : List Value, v = .agg acs.toArray ∧ Reads tt H [t] acs [d]
    | false => Reads tt H [t] [v] [d])
def ReadsArgs (tt : Tab) (H : AHeap) : List TypeId → List Value → List (DataW DH) → Prop
  | [], [], [] => True
  | t :: ts, v :: vs, d :: ds => ReadsArg tt H t v d ∧ ReadsArgs tt H ts vs ds
  | _, _, _ => False
theorem ReadsArg.mono {H H' : AHeap} (hle : H.le H') {t : TypeId} {v : Value} {d : DataW DH} (h : ReadsArg tt H t v d) : ReadsArg tt H' t v d := by
  obtain ⟨e, he, h⟩ := h
  refine ⟨e, he, ?_⟩
  cases ha : e.d.agg with
  | true => rw [ha] at h; obtain ⟨acs, h1, h2⟩ := h; exact ⟨acs, h1, h2.mono hle⟩
  | false => rw [ha] at h; exact h.mono hle

theorem reflect_arg (hT : TyOk P tt) {w : World} (h0 : 0 < w.heap.size) {m : Nat} {t : TypeId} {v : Value} {d : DataW DH} {ps : List MemPlace} {E : Env} {H : AHeap} (hd : dataTy tt m t = true)
    {r : Reach} {base : Nat} (hval : Value.okWide P w r base t v) (h : DataW.Trod enc P w 0 (fun _ => true) true t v d ps) (hR : Rel w E H w) :
    ∃ E' H' av, Ext E E' ∧ H.le H' ∧ Rel w E' H' w ∧ VRel E' av v ∧ ReadsArg tt H' t av d := by
  obtain ⟨fuel, hf⟩ := h
  obtain ⟨E1, H1, acs, x1, x2, x3, x4, x5, x6⟩ := reflect (P := P) hT h0 m t _ d ps E H hd ⟨fuel, hf⟩ hR
  obtain ⟨e, he, hne⟩ := dataTy_ne hd
  obtain ⟨_, ⟨td, hu, hdk⟩, _, _, _⟩ := hT t e he hne
  have single : e.d.agg = false → v.cells = #[v] → ∃ E' H' av, Ext E E' ∧ H.le H' ∧ Rel w E' H' w ∧ VRel E' av v ∧ ReadsArg tt H' t av d := by
    intro ha hc
    rw [hc] at x4 x5
    have hl := x4.size
    cases acs with
    | nil => simp at hl
    | cons a rest =>
      cases rest with
      | cons _ _ => simp at hl
      | nil =>
        refine ⟨E1, H1, a, x1, x2, x3, ?_, e, he, ?_⟩
        · have := x4.getD 0; simpa using this
        · rw [ha]; exact x6
  have aggr : e.d.agg = true → (∃ cs, v = .agg cs) → ∃ E' H' av, Ext E E' ∧ H.le H' ∧ Rel w E' H' w ∧ VRel E' av v ∧ ReadsArg tt H' t av d := by
    rintro ha ⟨cs, rfl⟩
    refine ⟨E1, H1, .agg acs.toArray, x1, x2, x3, ?_, e, he, ?_⟩
    · have hr : LRel E1 acs cs := by simpa [Value.cells] using x4
      exact .agg _ _ hr.toArray.size hr.toArray.get
    · rw [ha]; exact ⟨acs, rfl, x6⟩
  have hd' := hd
  cases m with
  | zero => simp [dataTy] at hd
  | succ m =>
    unfold dataTy at hd'
    rw [he] at hd'
    simp only at hd'
    cases hed : e.d <;> rw [hed] at hd' <;> simp only at hd' <;> rw [hed] at hdk single aggr <;> simp only [DOk] at hdk <;> try (exact Bool.noConfusion hd')
    case bool => subst hdk; obtain ⟨b, rfl⟩ := okWide_bool hu hval; exact single rfl rfl
    case int k => subst hdk; obtain ⟨b, rfl⟩ := okWide_int hu hval; exact single rfl rfl
    case string => subst hdk; obtain ⟨b, rfl⟩ := okWide_string hu hval; exact single rfl rfl
    case slice el => subst hdk; obtain ⟨a, b, c, rfl⟩ := okWide_slice hu hval; exact single rfl rfl
    case struct fs => obtain ⟨gs, rfl, _⟩ := hdk; obtain ⟨cs, rfl, _⟩ := okWide_struct hu hval; exact aggr rfl ⟨cs, rfl⟩
    case arr k el =>
      subst hdk
      unfold Value.okWide at hval
      rw [hu] at hval
      obtain ⟨cs, rfl, _⟩ := hval
      exact aggr rfl ⟨cs, rfl⟩

theorem reflect_args (hT : TyOk P tt) {w : World} (h0 : 0 < w.heap.size) {m : Nat} {r : Reach} {base : Nat} : ∀ (ts : List TypeId) (vs : List Value) (ds : List (DataW DH)) (ps : List MemPlace) (E : Env) (H : AHeap),
    (∀ t ∈ ts, dataTy tt m t = true) → (∀ (j : Nat) t v, ts[j]? = some t → vs[j]? = some v → Value.okWide P w r base t v) → DataW.TrodAll enc P w 0 (fun _ => true) true ts vs ds ps → Rel w E H w →
    ∃ E' H' avs, Ext E E' ∧ H.le H' ∧ Rel w E' H' w ∧ LRel E' avs vs.toArray ∧ ReadsArgs tt H' ts avs ds
  | [], [], [], _, E, H, _, _, _, hR => ⟨E, H, [], Ext.refl E, AHeap.le.refl H, hR, LRel.nil E, trivial⟩
  | t :: ts, v :: vs, d :: ds, _, E, H, hd, hval, ⟨p, q, h1, h2, _⟩, hR => by
    obtain ⟨E1, H1, av, x1, x2, x3, x4, x5⟩ := reflect_arg hT h0 (hd t (by simp)) (hval 0 t v rfl rfl) h1 hR
    obtain ⟨E2, H2, avs, y1, y2, y3, y4, y5⟩ := reflect_args hT h0 ts vs ds q E1 H1 (fun t ht => hd t (by simp [ht])) (fun j t v a b => hval (j + 1) t v (by simpa using a) (by simpa using b)) h2 x3
    exact ⟨E2, H2, av :: avs, x1.trans y1, x2.trans y2, y3, LRel.cons (x4.mono y1) y4, x5.mono y2, y5⟩
  | [], _ :: _, _, _, _, _, _, _, h, _ => by simp [DataW.TrodAll] at h
  | [], [], _ :: _, _, _, _, _, _, h, _ => by simp [DataW.TrodAll] at h
  | _ :: _, [], _, _, _, _, _, _, h, _ => by simp [DataW.TrodAll] at h
  | _ :: _, _ :: _, [], _, _, _, _, _, h, _ => by simp [DataW.TrodAll] at h

/-- what was there is there -/
structure Kept (w w' : World) : Prop where
  size : w.heap.size ≤ w'.heap.size
  old : ∀ b, b < w.heap.size → w'.heap[b]? = w.heap[b]?
  os : w'.os = w.os
  output : w'.output = w.output

theorem law_calls (hT : TyOk P tt) {f : FuncId} {w : World} (h0 : 0 < w.heap.size) {m : Nat} {r : Reach} {base : Nat} {ts : List TypeId} {args : Array Value} {ds : List (DataW DH)} {ps : List MemPlace}
    (hd : ∀ t ∈ ts, dataTy tt m t = true) (hval : ∀ (j : Nat) t v, ts[j]? = some t → args[j]? = some v → Value.okWide P w r base t v) (ht : DataW.TrodAll enc P w 0 (fun _ => true) true ts args.toList ds ps)
    (hlaw : ∀ H vs, ReadsArgs tt H ts vs ds → ACall P f vs H (fun e _ => e = .returned (.bool true))) :
    Calls P f args w fun e w' => e = .returned (.bool true) ∧ Kept w w' := by
  obtain ⟨E1, H1, avs, x1, x2, x3, x4, x5⟩ := reflect_args (r := r) (base := base) hT h0 ts args.toList ds ps ⟨0, fun _ => 0, fun _ => 0, fun _ => 0⟩ AHeap.empty hd (fun j t v a b => hval j t v a (by simpa using b)) ht
    ⟨rfl, Nat.le_refl _, fun _ _ => rfl, rfl, rfl, rfl, fun i o h => by simp [AHeap.empty] at h, fun i o h => by simp [AHeap.empty] at h⟩
  intro cs
  obtain ⟨e, H', E', w', fr, e', p1, p2, p3, p4, p5, p6, p7⟩ := hlaw H1 avs x5 w E1 w args x3 (by simpa using x4) cs
  subst p1
  cases e' with
  | returned v' =>
    have hv : v' = .bool true := by
      have h : VRel E' (.bool true) v' := p4
      cases h
      rfl
    subst hv
    exact ⟨.returned (.bool true), w', fr, ⟨rfl, p3.size, p3.old, p3.os, p3.output⟩, p5, p6, p7⟩
  | panicked ch => exact p4.elim
  | outgrown => exact p4.elim

theorem sameAt_kept {w w' : World} (hk : Kept w w') {p : MemPlace} (hp : p.block < w.heap.size) : w.sameAt w' p := by
  cases p with
  | cell b off => simp only [World.sameAt, World.cell?]; rw [hk.old b hp]
  | map b => exact hk.old b hp
theorem trodAll_kept (hT : TyOk P tt) {w w' : World} (hk : Kept w w') {m : Nat} : ∀ {ts : List TypeId} {vs : List Value} {ds : List (DataW DH)} {ps : List MemPlace}, (∀ t ∈ ts, dataTy tt m t = true) →
    DataW.TrodAll enc P w 0 (fun _ => true) true ts vs ds ps → DataW.TrodAll enc P w' 0 (fun b => decide (b < w.heap.size)) true ts vs ds ps
  | [], [], [], _, _, h => h
  | t :: ts, v :: vs, d :: ds, _, hd, ⟨p, q, ⟨n, h1⟩, h2, e⟩ => by
    have hlt := DataW.trod_lt n _ _ _ h1
    refine ⟨p, q, ⟨n, ?_⟩, trodAll_kept hT hk (fun t ht => hd t (by simp [ht])) h2, e⟩
    exact DataW.trod_carry n _ _ _ (trod_respare hT m t n _ _ (hd t (by simp)) h1 fun x hx => by simpa using hlt x hx) fun x hx => sameAt_kept hk (hlt x hx)
  | [], _ :: _, _, _, _, h => by simp [DataW.TrodAll] at h
  | [], [], _ :: _, _, _, h => by simp [DataW.TrodAll] at h
  | _ :: _, [], _, _, _, h => by simp [DataW.TrodAll] at h
  | _ :: _, _ :: _, [], _, _, h => by simp [DataW.TrodAll] at h

theorem trodAll_len {w : World} {base : Nat} {sp : Nat → Bool} {held : Bool} : ∀ {ts : List TypeId} {vs : List Value} {ds : List (DataW DH)} {ps : List MemPlace}, DataW.TrodAll enc P w base sp held ts vs ds ps → ds.length = ts.length
  | [], [], [], _, _ => rfl
  | t :: ts, v :: vs, d :: ds, _, ⟨p, q, _, h2, _⟩ => by simp [trodAll_len h2]
  | [], _ :: _, _, _, h => by simp [DataW.TrodAll] at h
  | [], [], _ :: _, _, h => by simp [DataW.TrodAll] at h
  | _ :: _, [], _, _, h => by simp [DataW.TrodAll] at h
  | _ :: _, _ :: _, [], _, h => by simp [DataW.TrodAll] at h

theorem keptBut_of {w w' : World} (hk : Kept w w') (may : MemPlace → Prop) : w.keptBut w' may := by
  refine ⟨hk.os, hk.output, fun i hi => ?_⟩
  rw [hk.old i hi]
  cases h : w.heap[i]? with
  | none => rfl
  | some o => cases o <;> simp

theorem law_post (hT : TyOk P tt) {f : Func} {s : ChangeSpec} {m : Nat} {tb : TypeId} (hv : s.vars = []) (hd : ∀ t ∈ f.params.toList, dataTy tt m t = true) (hr : f.resultTypes = #[tb]) (hb : P.underlying tb = some .bool)
    {w w' : World} {args : Array Value} {ds gs : List (DataW DH)} {before : List MemPlace} (hs : (s.fn DH (ds ++ gs)).results = [.lit (.bool true)] ∧ (s.fn DH (ds ++ gs)).args = ds ∧ (s.fn DH (ds ++ gs)).vars = [])
    (hW : DataW.Whole enc P f.params.toList s.vars false w args.toList ds gs before) (hk : Kept w w') : s.post enc P f false true false false w args (.bool true) w' := by
  obtain ⟨p, q, h1, h2, h3, h4, h5⟩ := id hW
  refine ⟨ds, gs, before, [], p, [], hW, ?_, ?_, ?_, keptBut_of hk _, fun h => absurd h (by simp)⟩
  · rw [hr, hs.1]
    exact ⟨[], [], ⟨1, by simp [DataW.trod, Value.cells, hb]⟩, rfl, rfl⟩
  · rw [hs.2.1]
    exact trodAll_kept hT hk hd h1
  · rw [hs.2.2, hv]
    rfl
end
end Go.Abs
