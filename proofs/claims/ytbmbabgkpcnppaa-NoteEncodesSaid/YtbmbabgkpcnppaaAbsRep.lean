/- What data in abstract memory stands for; memory that is made read-only; loops with few words. -/
import Derived.Test.YtbmbabgkpcnppaaAbsUse
import Derived.Test.YtbmbabgkpcnppaaAbsLaw
set_option linter.all false
namespace Go.Abs
open Go

/-! blocks of the call's own that are made read-only -/
structure HW (H H' : AHeap) : Prop where
  size : H'.size = H.size
  get : ∀ i o, H'.get i = some o → H.get i = some o ∨ ∃ c sz sz', H.get i = some (.cells c true sz) ∧ o = .cells c false sz'
theorem HW.refl (H : AHeap) : HW H H := ⟨rfl, fun _ _ h => .inl h⟩
theorem HW.trans {H H1 H2 : AHeap} (h : HW H H1) (g : HW H1 H2) : HW H H2 := ⟨g.size.trans h.size, fun i o hi => by
  rcases g.get i o hi with h1 | ⟨c, sz, sz', h1, rfl⟩
  · exact h.get i o h1
  · rcases h.get i _ h1 with h2 | ⟨_, _, _, _, h3⟩
    · exact .inr ⟨c, sz, sz', h2, rfl⟩
    · exact absurd h3 (by simp)⟩
theorem HW.freeze {H : AHeap} {i : Nat} {c : List Value} {sz : Nat} (h : H.get i = some (.cells c true sz)) : HW H (H.set i (.cells c false sz)) := ⟨rfl, fun j o hj => by
  by_cases hx : j = i
  · subst hx
    rw [AHeap.set_same] at hj
    cases hj
    exact .inr ⟨c, sz, sz, h, rfl⟩
  · rw [AHeap.set_ne H _ hx] at hj; exact .inl hj⟩
theorem HW.kill (H : AHeap) (i : Nat) : HW H (H.kill i) := ⟨rfl, fun j o hj => by
  by_cases hx : j = i
  · subst hx; rw [AHeap.kill_same] at hj; exact absurd hj (by simp)
  · rw [AHeap.kill_ne H hx] at hj; exact .inl hj⟩

theorem Rel.hw {w0 : World} {E : Env} {H H' : AHeap} {w : World} (h : Rel w0 E H w) (hw : HW H H') : Rel w0 E H' w where
  n := h.n.trans hw.size.symm
  size := h.size
  old := h.old
  tape := h.tape
  os := h.os
  output := h.output
  obj i o hi := by
    rcases hw.get i o hi with h1 | ⟨c, sz, sz', h1, rfl⟩
    · obtain ⟨a, b, g⟩ := h.obj i o h1; exact ⟨hw.size ▸ a, b, g⟩
    · obtain ⟨a, b, g⟩ := h.obj i _ h1
      refine ⟨hw.size ▸ a, b, ?_⟩
      rcases g with ⟨_, g⟩ | ⟨c', el, fr, g1, g2, g3⟩
      · exact absurd g (by simp)
      · exact .inr ⟨c', el, fr, g1, g2, fun h => absurd h (by simp)⟩
  own i o hi hown := by
    rcases hw.get i o hi with h1 | ⟨c, sz, sz', h1, rfl⟩
    · obtain ⟨a, b⟩ := h.own i o h1 hown
      refine ⟨a, fun j o' hj hne => ?_⟩
      rcases hw.get j o' hj with h2 | ⟨_, _, _, h2, _⟩
      · exact b j _ h2 hne
      · exact b j _ h2 hne
    · exact absurd hown (by simp [AObj.own])

section
variable {P : Program} {tt : Tab} {cx : Cx}
theorem SRel.hw {w0 : World} {E : Env} {cs0 : List Frame} {t : List Value} {d : List Deferred} {u : FrameMode} {H H' : AHeap} {c : Conc} (h : SRel w0 E cx cs0 ⟨t, d, u, H⟩ c) (hw : HW H H') : SRel w0 E cx cs0 ⟨t, d, u, H'⟩ c where
  rel := h.rel.hw hw
  t := h.t
  d := h.d
  u := h.u
theorem AHead.hw {h : Item} {K : EK} {t : List Value} {d : List Deferred} {u : FrameMode} {H H' : AHeap} (hw : HW H H') (hk : AHead P cx h K ⟨t, d, u, H'⟩) : AHead P cx h K ⟨t, d, u, H⟩ :=
  fun w0 E b k cs0 c hc hr => hk w0 E b k cs0 c hc (hr.hw hw)
theorem loopS_pre {c : Code} {K : EK} {t : List Value} {d : List Deferred} {u : FrameMode} {H H' : AHeap} (hw : HW H H') (h : loopS P cx c K ⟨t, d, u, H'⟩) : loopS P cx c K ⟨t, d, u, H⟩ := by
  unfold loopS at *
  exact ⟨h.1.hw hw, h.2.hw hw⟩
end

/-! what stays -/
structure Kp (H H' : AHeap) : Prop where
  size : H.size ≤ H'.size
  get : ∀ i c sz, i < H.size → H.get i = some (.cells c false sz) → H'.get i = some (.cells c false sz)
theorem Kp.refl (H : AHeap) : Kp H H := ⟨Nat.le_refl _, fun _ _ _ _ h => h⟩
theorem Kp.trans {H K L : AHeap} (a : Kp H K) (b : Kp K L) : Kp H L := ⟨Nat.le_trans a.size b.size, fun i c sz h g => b.get i c sz (Nat.lt_of_lt_of_le h a.size) (a.get i c sz h g)⟩
theorem AHeap.le.kp {H K : AHeap} (h : H.le K) : Kp H K := ⟨h.size, fun i _ _ hi g => (h.get i hi).trans g⟩
theorem Kp.push {H K : AHeap} (h : Kp H K) (o : AObj) : Kp H (K.push o) := h.trans (AHeap.le_push K o).kp
theorem Kp.set {H K : AHeap} (h : Kp H K) {i : Nat} {o : AObj} (hi : K.get i = some o) (ho : o.own = true) (o' : AObj) : Kp H (K.set i o') :=
  h.trans ⟨Nat.le_refl _, fun j c sz hj g => by
    by_cases hx : j = i
    · subst hx; rw [hi] at g; cases g; exact absurd ho (by simp [AObj.own])
    · rw [AHeap.set_ne K o' hx]; exact g⟩
theorem Kp.kill {H K : AHeap} (h : Kp H K) {i : Nat} {o : AObj} (hi : K.get i = some o) (ho : o.own = true) : Kp H (K.kill i) :=
  h.trans ⟨Nat.le_refl _, fun j c sz hj g => by
    by_cases hx : j = i
    · subst hx; rw [hi] at g; cases g; exact absurd ho (by simp [AObj.own])
    · rw [AHeap.kill_ne K hx]; exact g⟩

/-- a read-only block -/
def FB (H : AHeap) (i : Nat) (c : List Value) : Prop := i < H.size ∧ ∃ sz, H.get i = some (.cells c false sz)
theorem FB.kp {H H' : AHeap} {i : Nat} {c : List Value} (h : FB H i c) (k : Kp H H') : FB H' i c :=
  ⟨Nat.lt_of_lt_of_le h.1 k.size, by obtain ⟨hi, sz, h⟩ := h; exact ⟨sz, k.get i c sz hi h⟩⟩
theorem FB.new (H : AHeap) {o : Nat} (ho : o < H.size) (c : List Value) (sz : Nat) : FB (H.set o (.cells c false sz)) o c := ⟨ho, sz, AHeap.set_same _ _ _⟩

abbrev VR (α : Type) := AHeap → List Value → α → Prop
def MonoR {α : Type} (R : VR α) : Prop := ∀ H H' cs x, Kp H H' → R H cs x → R H' cs x

def inR (x : Int) : Prop := -9223372036854775808 ≤ x ∧ x ≤ 9223372036854775807
def maxN : Nat := 9223372036854775807

/-- a slice of elements of sz cells each -/
inductive Sl {α : Type} (R : VR α) (sz : Nat) (H : AHeap) : Option Addr → List α → Prop where
  | nil : Sl R sz H none []
  | mk {i off : Nat} {c : List Value} {xs : List α} (hb : FB H i c) (hn : xs.length ≤ maxN) (hl : off + xs.length * sz ≤ c.length) (hc : ∀ k (h : k < xs.length), ∃ cs, (c.drop (off + k * sz)).take sz = cs ∧ off + k * sz + sz ≤ c.length ∧ R H cs xs[k]) : Sl R sz H (some ⟨i, off, none⟩) xs

theorem Sl.kp {α : Type} {R : VR α} (hR : MonoR R) {sz : Nat} {H H' : AHeap} {a : Option Addr} {xs : List α} (h : Sl R sz H a xs) (k : Kp H H') : Sl R sz H' a xs := by
  cases h with
  | nil => exact .nil
  | mk hb hn hl hc => exact .mk (hb.kp k) hn hl fun j hj => let ⟨cs, h1, h2, h3⟩ := hc j hj; ⟨cs, h1, h2, hR _ _ _ _ k h3⟩
theorem Sl.len {α : Type} {R : VR α} {sz : Nat} {H : AHeap} {a : Option Addr} {xs : List α} (h : Sl R sz H a xs) : xs.length ≤ 9223372036854775807 := by
  cases h with
  | nil => simp
  | mk _ hn _ _ => exact hn
/-- an element is there: the slice is not nil -/
theorem Sl.at {α : Type} {R : VR α} {sz : Nat} {H : AHeap} {a : Option Addr} {xs : List α} (h : Sl R sz H a xs) {k : Nat} (hk : k < xs.length) :
    ∃ i off, a = some ⟨i, off, none⟩ := by
  cases h with
  | nil => exact absurd hk (by simp)
  | mk _ _ _ _ => exact ⟨_, _, rfl⟩

def RInt : VR Int := fun _ cs x => cs = [.int .i64 x] ∧ inR x
def RBool : VR Bool := fun _ cs x => cs = [.bool x]
def RStr : VR ByteArray := fun _ cs x => cs = [.string x] ∧ x.size ≤ maxN
def RByte : VR Nat := fun _ cs x => cs = [.int .u8 x] ∧ x < 256
def CapOk (a : Option Addr) (n cap : Nat) : Prop := (a = none → cap = 0) ∧ n ≤ cap
theorem CapOk.of {i off n cap : Nat} (h : n ≤ cap) : CapOk (some ⟨i, off, none⟩) n cap := ⟨(fun e => by cases e), h⟩
def RSl {α : Type} (R : VR α) (sz : Nat) : VR (List α) := fun H cs xs => ∃ a cap, cs = [.slice a xs.length cap] ∧ Sl R sz H a xs ∧ CapOk a xs.length cap
theorem rInt_mono : MonoR RInt := fun _ _ _ _ _ h => h
theorem rBool_mono : MonoR RBool := fun _ _ _ _ _ h => h
theorem rStr_mono : MonoR RStr := fun _ _ _ _ _ h => h
theorem rByte_mono : MonoR RByte := fun _ _ _ _ _ h => h
theorem rSl_mono {α : Type} {R : VR α} (hR : MonoR R) {sz : Nat} : MonoR (RSl R sz) := fun _ _ _ _ k ⟨a, cap, h1, h2, h3⟩ => ⟨a, cap, h1, h2.kp hR k, h3⟩

abbrev Row (H : AHeap) (a : Option Addr) (xs : List Int) : Prop := Sl RInt 1 H a xs
abbrev RRow : VR (List Int) := RSl RInt 1
abbrev Mat (H : AHeap) (a : Option Addr) (xs : List (List Int)) : Prop := Sl RRow 1 H a xs
theorem Row.kp {H H' : AHeap} {a : Option Addr} {xs : List Int} (h : Row H a xs) (k : Kp H H') : Row H' a xs := Sl.kp rInt_mono h k
theorem Mat.kp {H H' : AHeap} {a : Option Addr} {xs : List (List Int)} (h : Mat H a xs) (k : Kp H H') : Mat H' a xs := Sl.kp (rSl_mono rInt_mono) h k

/-- one cell of an element of one cell -/
theorem Sl.cell {α : Type} {R : VR α} {H : AHeap} {i off : Nat} {xs : List α} (h : Sl R 1 H (some ⟨i, off, none⟩) xs) {k : Nat} (hk : k < xs.length) : ∃ v, H.cell i (off + k) = some v ∧ R H [v] xs[k] := by
  cases h with
  | mk hb hn hl hc =>
    rename_i c
    obtain ⟨cs, h1, h2, h3⟩ := hc k hk
    obtain ⟨hi, sz, hg⟩ := hb
    have hlt : off + k < c.length := by omega
    refine ⟨c[off + k], by simp [AHeap.cell, hg, hlt], ?_⟩
    have : cs = [c[off + k]] := by
      rw [← h1, Nat.mul_one, List.drop_eq_getElem_cons hlt, List.take_succ_cons, List.take_zero]
    rw [← this]; exact h3
theorem Row.range {H : AHeap} {a : Option Addr} {xs : List Int} (h : Row H a xs) {x : Int} (hx : x ∈ xs) : inR x := by
  obtain ⟨k, hk, rfl⟩ := List.getElem_of_mem hx
  obtain ⟨i, off, rfl⟩ := h.at hk
  obtain ⟨v, _, _, h2⟩ := h.cell hk
  exact h2
theorem Row.get {H : AHeap} {i off : Nat} {xs : List Int} (h : Row H (some ⟨i, off, none⟩) xs) {k : Nat} (hk : k < xs.length) : H.cell i (off + k) = some (.int .i64 xs[k]) := by
  obtain ⟨v, h1, h2, _⟩ := h.cell hk
  rw [h1]; cases h2; rfl
theorem loadK_rowN {H : AHeap} {i off : Nat} {xs : List Int} {k : Nat} {K : Value → Prop} (h : Row H (some ⟨i, off, none⟩) xs) (he : k < xs.length) (hk : K (.int .i64 (xs[k]))) : loadK H i (off + (k : Int).toNat * 1) K := by
  refine loadK_of (v := .int .i64 xs[k]) (by rw [Nat.mul_one, Int.toNat_natCast]; exact h.get he) hk
/-- a row that was made, read-only from now on -/
theorem Row.made {H : AHeap} {o : Nat} (ho : o < H.size) {xs : List Int} {sz : Nat} (hn : xs.length ≤ maxN) (hr : ∀ x ∈ xs, inR x) : Row (H.set o (.cells (xs.map (Value.int .i64)) false sz)) (some ⟨o, 0, none⟩) xs := by
  refine .mk (FB.new H ho _ sz) hn (by simp) fun k hk => ⟨_, rfl, by simp; omega, ?_, hr _ (List.getElem_mem _)⟩
  have hk' : k < (xs.map (Value.int .i64)).length := by simpa using hk
  rw [Nat.zero_add, Nat.mul_one, List.drop_eq_getElem_cons hk', List.take_succ_cons, List.take_zero, List.getElem_map]

/-! loops: what becomes of the slots at the head: kept, forgotten, put -/
inductive M where
  | k
  | w
  | p (v : Value)
abbrev maskK : List M → List Value → (List Value → Prop) → Prop
  | [], t, q => q t
  | _ :: _, [], q => q []
  | .k :: ms, v :: t, q => maskK ms t fun t' => q (v :: t')
  | .w :: ms, _ :: t, q => maskK ms t fun t' => q (undef :: t')
  | .p u :: ms, _ :: t, q => maskK ms t fun t' => q (u :: t')
def maskV : List M → List Value → List Value
  | [], t => t
  | _ :: _, [] => []
  | .k :: ms, v :: t => v :: maskV ms t
  | .w :: ms, _ :: t => undef :: maskV ms t
  | .p u :: ms, _ :: t => u :: maskV ms t
theorem maskK_eq : ∀ (m : List M) (t : List Value) (q : List Value → Prop), maskK m t q = q (maskV m t)
  | [], t, q => by simp [maskK, maskV]
  | m :: ms, [], q => by cases m <;> simp [maskK, maskV]
  | .k :: ms, v :: t, q => by simp [maskK, maskV, maskK_eq ms t]
  | .w :: ms, v :: t, q => by simp [maskK, maskV, maskK_eq ms t]
  | .p u :: ms, v :: t, q => by simp [maskK, maskV, maskK_eq ms t]
theorem WT.eq {t t' : List Value} {k : IntKind} {x y : Int} (h : x = y) (g : WT t t') : WT (.int k x :: t) (.int k y :: t') := h ▸ .same g
structure WeakH (s s' : St) : Prop where
  len : s'.t.length = s.t.length
  t : ∀ i, s'.t.getD i undef = s.t.getD i undef ∨ s'.t.getD i undef = undef
  d : s'.d = s.d
  u : s'.u = s.u
  H : HW s.H s'.H
theorem weakH_of {t t' : List Value} {d : List Deferred} {u : FrameMode} {H H' : AHeap} (hw : HW H H') (h : WT t t') : WeakH ⟨t, d, u, H⟩ ⟨t', d, u, H'⟩ := ⟨h.len, h.get, rfl, rfl, hw⟩
theorem loopS_weakH {P : Program} {cx : Cx} {c : Code} {K : EK} {s s' : St} (hw : WeakH s s') (h : loopS P cx c K s') : loopS P cx c K s := by
  obtain ⟨t, d, u, H⟩ := s
  obtain ⟨t', d', u', H'⟩ := s'
  obtain ⟨h1, h2, h3, h4, h5⟩ := hw
  cases h3
  cases h4
  exact loopS_weak (s' := ⟨t', d, u, H⟩) ⟨h1, h2, rfl, rfl, rfl, fun _ _ h => h⟩ (loopS_pre h5 h)
theorem loopS_ixH {P : Program} {tt : Tab} {cx : Cx} (hT : TyOk P tt) {ι : Type} {c : Code} {K : EK} (S : ι → St) (inv : ι → Prop) (μ : ι → Nat)
    (round : ∀ i, inv i → den tt (SI P) cx c (fun e s' => match e with | .normal => (∃ j, inv j ∧ μ j < μ i ∧ WeakH s' (S j)) | e => K e s') (S i)) (i : ι) (hi : inv i) : loopS P cx c K (S i) := by
  have key : ∀ n i, μ i = n → inv i → loopS P cx c K (S i) := by
    intro n
    induction n using Nat.strongRecOn with
    | _ n ih =>
      intro i hn hi
      refine loopS_round hT (den_sub si_sub c (round i hi) fun e s' he => ?_)
      cases e with
      | normal =>
        obtain ⟨j, h1, h2, h3⟩ := he
        exact loopS_weakH h3 (ih (μ j) (hn ▸ h2) j rfl h1)
      | _ => exact he
  exact key _ i rfl hi
theorem loopS_mask {P : Program} {tt : Tab} {cx : Cx} (hT : TyOk P tt) {ι : Type} {c : Code} {K : EK} {t : List Value} {d : List Deferred} {u : FrameMode} {H : AHeap} (m : ι → List M) (hp : ι → AHeap) (inv : ι → Prop) (μ : ι → Nat) (i0 : ι) (h0 : inv i0)
    (hst : maskK (m i0) t fun t' => WeakH ⟨t, d, u, H⟩ ⟨t', d, u, hp i0⟩)
    (round : ∀ i, inv i → maskK (m i) t fun t' => den tt (SI P) cx c (fun e s' => match e with | .normal => (∃ j, inv j ∧ μ j < μ i ∧ maskK (m j) t fun t'' => WeakH s' ⟨t'', d, u, hp j⟩) | e => K e s') ⟨t', d, u, hp i⟩) : loopS P cx c K ⟨t, d, u, H⟩ := by
  rw [maskK_eq] at hst
  refine loopS_weakH hst ?_
  refine loopS_ixH hT (fun i => ⟨maskV (m i) t, d, u, hp i⟩) inv μ (fun i hi => ?_) i0 h0
  have h := round i hi
  rw [maskK_eq] at h
  refine den_sub si_sub c h fun e s' he => ?_
  cases e with
  | normal =>
    obtain ⟨j, h1, h2, h3⟩ := he
    rw [maskK_eq] at h3
    exact ⟨j, h1, h2, h3⟩
  | _ => exact he
theorem condK_ndT {p : Prop} [Decidable p] {a b : Prop} (h : p) (hb : b) : condK (!decide p) a b := condK_false (by simp [h]) hb
theorem condK_ndF {p : Prop} [Decidable p] {a b : Prop} (h : ¬p) (ha : a) : condK (!decide p) a b := condK_true (by simp [h]) ha
theorem pickK_ndT {p : Prop} [Decidable p] {a b : Value} {K : Value → Prop} (h : p) (hb : K b) : pickK (!decide p) a b K := pickK_false (by simp [h]) hb
theorem pickK_ndF {p : Prop} [Decidable p] {a b : Value} {K : Value → Prop} (h : ¬p) (ha : K a) : pickK (!decide p) a b K := pickK_true (by simp [h]) ha
theorem condK_nt {a b : Prop} (h : b) : condK (!true) a b := condK_false rfl h
theorem condK_nf {a b : Prop} (h : a) : condK (!false) a b := condK_true rfl h
/-! looking into heaps -/
theorem AHeap.set_at (H : AHeap) {i j : Nat} (o : AObj) (h : j = i) : (H.set i o).get j = some o := h ▸ AHeap.set_same H j o
theorem AHeap.push_at (H : AHeap) {j : Nat} (o : AObj) (h : j = H.size) : (H.push o).get j = some o := h ▸ AHeap.push_new H o
theorem storeK_at {H : AHeap} {i off : Nat} {v : Value} {K : AHeap → Prop} {c c' : List Value} {sz : Nat} (h : H.get i = some (.cells c true sz)) (hl : off < c.length) (hc : c.set off v = c') (hk : K (H.set i (.cells c' true sz))) :
    storeK H i off v K := storeK_of h hl (hc ▸ hk)
theorem loadsK_all {H : AHeap} {i n : Nat} {K : List Value → Prop} {c : List Value} {own : Bool} {sz : Nat} (h : H.get i = some (.cells c own sz)) (hl : n = c.length) (hk : K c) : loadsK H i 0 n K :=
  loadsK_of h (by omega) (by rw [List.drop_zero, List.take_of_length_le (by omega)]; exact hk)

/-- everything of the call's own from a block on is read-only -/
def frz : AObj → AObj
  | .cells c true sz => .cells c false sz
  | o => o
def AHeap.fz (H : AHeap) (b : Nat) : AHeap := ⟨H.size, fun i => bif Nat.ble b i then (H.get i).map frz else H.get i⟩
@[simp] theorem AHeap.fz_size (H : AHeap) (b : Nat) : (H.fz b).size = H.size := rfl
theorem AHeap.fz_lt (H : AHeap) {b i : Nat} (h : i < b) : (H.fz b).get i = H.get i := by
  have : Nat.ble b i = false := by cases hb : Nat.ble b i with
    | false => rfl
    | true => exact absurd (Nat.le_of_ble_eq_true hb) (by omega)
  simp [AHeap.fz, this]
theorem AHeap.fz_ge (H : AHeap) {b i : Nat} (h : b ≤ i) : (H.fz b).get i = (H.get i).map frz := by
  simp [AHeap.fz, Nat.ble_eq_true_of_le h]
theorem HW.fz (H : AHeap) (b : Nat) : HW H (H.fz b) := ⟨rfl, fun i o hi => by
  by_cases h : b ≤ i
  · rw [AHeap.fz_ge H h] at hi
    cases hg : H.get i with
    | none => rw [hg] at hi; exact absurd hi (by simp)
    | some x =>
      rw [hg] at hi
      simp only [Option.map_some, Option.some.injEq] at hi
      subst hi
      unfold frz
      split
      · exact .inr ⟨_, _, _, rfl, rfl⟩
      · exact .inl rfl
  · rw [AHeap.fz_lt H (by omega)] at hi; exact .inl hi⟩
theorem AHeap.le.fz {H K : AHeap} (h : H.le K) {b : Nat} (hb : H.size ≤ b) : H.le (K.fz b) := ⟨h.size, fun i hi => (AHeap.fz_lt K (by omega)).trans (h.get i hi)⟩
theorem Kp.fz {H K : AHeap} (h : Kp H K) (b : Nat) : Kp H (K.fz b) := h.trans ⟨Nat.le_refl _, fun i c sz hi g => by
  by_cases hb : b ≤ i
  · rw [AHeap.fz_ge K hb, g]; rfl
  · rw [AHeap.fz_lt K (by omega)]; exact g⟩
theorem FB.fz {H : AHeap} {i b : Nat} {c : List Value} {own : Bool} {sz : Nat} (hi : i < H.size) (hb : b ≤ i) (h : H.get i = some (.cells c own sz)) : FB (H.fz b) i c :=
  ⟨hi, sz, by rw [AHeap.fz_ge H hb, h]; cases own <;> rfl⟩
theorem Row.fz {H : AHeap} {i b : Nat} {xs : List Int} {own : Bool} {sz : Nat} (hi : i < H.size) (hb : b ≤ i) (h : H.get i = some (.cells (xs.map (Value.int .i64)) own sz)) (hn : xs.length ≤ maxN) (hr : ∀ x ∈ xs, inR x) : Row (H.fz b) (some ⟨i, 0, none⟩) xs := by
  refine .mk (FB.fz hi hb h) hn (by simp) fun k hk => ⟨_, rfl, by simp; omega, ?_, hr _ (List.getElem_mem _)⟩
  have hk' : k < (xs.map (Value.int .i64)).length := by simpa using hk
  rw [Nat.zero_add, Nat.mul_one, List.drop_eq_getElem_cons hk', List.take_succ_cons, List.take_zero, List.getElem_map]

/-! a matrix of the call's own: rows in blocks of their own; behind them cells that are no rows yet -/
def zipS : List Nat → List (List Int) → List Value
  | r :: rs, m :: ms => .slice (some ⟨r, 0, none⟩) m.length m.length :: zipS rs ms
  | _, _ => []
theorem zipS_len : ∀ {rs : List Nat} {m : List (List Int)}, rs.length = m.length → (zipS rs m).length = m.length
  | [], [], _ => rfl
  | _ :: rs, _ :: ms, h => by simp [zipS, zipS_len (rs := rs) (m := ms) (by simpa using h)]
  | [], _ :: _, h => by simp at h
  | _ :: _, [], h => by simp at h
theorem zipS_get : ∀ {rs : List Nat} {m : List (List Int)} {k : Nat} (h1 : k < rs.length) (h2 : k < m.length), (zipS rs m)[k]? = some (.slice (some ⟨rs[k], 0, none⟩) m[k].length m[k].length)
  | [], _, _, h1, _ => by simp at h1
  | _ :: _, [], _, _, h2 => by simp at h2
  | _ :: rs, _ :: ms, 0, _, _ => rfl
  | _ :: rs, _ :: ms, k + 1, h1, h2 => by simpa [zipS] using zipS_get (rs := rs) (m := ms) (k := k) (by simpa using h1) (by simpa using h2)
theorem zipS_append : ∀ {rs : List Nat} {m : List (List Int)} (r : Nat) (x : List Int), rs.length = m.length → zipS (rs ++ [r]) (m ++ [x]) = zipS rs m ++ [.slice (some ⟨r, 0, none⟩) x.length x.length]
  | [], [], _, _, _ => rfl
  | _ :: rs, _ :: ms, r, x, h => by simp [zipS, zipS_append (rs := rs) (m := ms) r x (by simpa using h)]
  | [], _ :: _, _, _, h => by simp at h
  | _ :: _, [], _, _, h => by simp at h
theorem zipS_set : ∀ {rs : List Nat} {m : List (List Int)} {c : Nat} {x : List Int} (h : c < m.length), x.length = m[c].length → zipS rs (m.set c x) = zipS rs m
  | [], [], _, _, h, _ => by simp at h
  | [], _ :: _, c, _, _, _ => by cases c <;> rfl
  | _ :: _, [], _, _, h, _ => by simp at h
  | _ :: rs, _ :: ms, 0, x, _, hx => by simp [zipS] at hx ⊢; exact hx
  | _ :: rs, _ :: ms, c + 1, x, h, hx => by simp [zipS]; exact zipS_set (by simpa using h) (by simpa using hx)
structure OMat (H : AHeap) (base o : Nat) (rs : List Nat) (m : List (List Int)) (rest : List Value) : Prop where
  len : rs.length = m.length
  outer : H.get o = some (.cells (zipS rs m ++ rest) true 1)
  inner : ∀ k (h1 : k < rs.length) (h2 : k < m.length), H.get rs[k] = some (.cells (m[k].map (Value.int .i64)) true 1)
  nodup : rs.Nodup
  no : o ∉ rs
  lo : base ≤ o ∧ ∀ r ∈ rs, base ≤ r
  lt : o < H.size ∧ ∀ r ∈ rs, r < H.size
/-- an element is written -/
theorem OMat.set {H : AHeap} {base o : Nat} {rs : List Nat} {m : List (List Int)} {rest : List Value} (h : OMat H base o rs m rest) {c f : Nat} (hc : c < m.length) (hr : c < rs.length) (v : Int) :
    OMat (H.set rs[c] (.cells ((m[c].map (Value.int .i64)).set f (.int .i64 v)) true 1)) base o rs (m.set c (m[c].set f v)) rest where
  len := by simpa using h.len
  outer := by
    have hne : o ≠ rs[c] := fun e => h.no (e ▸ List.getElem_mem _)
    rw [AHeap.set_ne _ _ hne, h.outer, zipS_set hc (by simp)]
  inner k h1 h2 := by
    have h2' : k < m.length := by simpa using h2
    by_cases hk : k = c
    · subst hk
      rw [AHeap.set_same, List.getElem_set_self, List.map_set]
    · have hne : rs[k] ≠ rs[c] := by
        have hp := List.pairwise_iff_getElem.1 h.nodup
        rcases Nat.lt_or_gt_of_ne hk with hlt | hlt
        · exact hp k c h1 hr hlt
        · exact (hp c k hr h1 hlt).symm
      rw [AHeap.set_ne _ _ hne, h.inner k h1 h2', List.getElem_set_ne (by omega)]
  nodup := h.nodup
  no := h.no
  lo := h.lo
  lt := h.lt
/-- other blocks do not matter -/
theorem OMat.of_get {H H' : AHeap} {base o : Nat} {rs : List Nat} {m : List (List Int)} {rest : List Value} (h : OMat H base o rs m rest) (hs : H.size ≤ H'.size) (hg : ∀ i, i < H.size → (i = o ∨ i ∈ rs) → H'.get i = H.get i) : OMat H' base o rs m rest where
  len := h.len
  outer := (hg _ h.lt.1 (.inl rfl)).trans h.outer
  inner k h1 h2 := (hg _ (h.lt.2 _ (List.getElem_mem _)) (.inr (List.getElem_mem _))).trans (h.inner k h1 h2)
  nodup := h.nodup
  no := h.no
  lo := h.lo
  lt := ⟨Nat.lt_of_lt_of_le h.lt.1 hs, fun r hr => Nat.lt_of_lt_of_le (h.lt.2 r hr) hs⟩
theorem OMat.le {H H' : AHeap} {base o : Nat} {rs : List Nat} {m : List (List Int)} {rest : List Value} (h : OMat H base o rs m rest) (hle : H.le H') : OMat H' base o rs m rest := h.of_get hle.size fun i hi _ => hle.get i hi
theorem OMat.fz {H : AHeap} {base b o : Nat} {rs : List Nat} {m : List (List Int)} (h : OMat H base o rs m []) (hb : b ≤ base) (hn : m.length ≤ maxN) (hr : ∀ r ∈ m, r.length ≤ maxN ∧ ∀ x ∈ r, inR x) : Mat (H.fz b) (some ⟨o, 0, none⟩) m := by
  have hl := zipS_len h.len
  refine .mk (FB.fz h.lt.1 (Nat.le_trans hb h.lo.1) h.outer) hn (by rw [List.append_nil, hl]; omega) fun k hk => ?_
  have hk1 : k < rs.length := by rw [h.len]; exact hk
  have hk' : k < (zipS rs m ++ []).length := by rw [List.append_nil, hl]; exact hk
  refine ⟨_, rfl, by rw [List.append_nil, hl]; omega, some ⟨rs[k], 0, none⟩, m[k].length, ?_, ?_, CapOk.of (Nat.le_refl _)⟩
  · rw [Nat.zero_add, Nat.mul_one, List.drop_eq_getElem_cons hk', List.take_succ_cons, List.take_zero]
    have := zipS_get hk1 hk
    have h2 : (zipS rs m ++ [])[k]? = (zipS rs m)[k]? := by rw [List.append_nil]
    rw [List.getElem?_eq_getElem hk', this] at h2
    rw [Option.some.inj h2]
  · have hm := hr m[k] (List.getElem_mem _)
    exact Row.fz (h.lt.2 _ (List.getElem_mem _)) (Nat.le_trans hb (h.lo.2 _ (List.getElem_mem _))) (h.inner k hk1 hk) hm.1 hm.2
/-! the same, each with one side goal -/
theorem hl_load {H : AHeap} {i off : Nat} {K : Value → Prop} {c : List Value} {own : Bool} {sz : Nat} {v : Value} (h : H.get i = some (.cells c own sz)) (hs : True ∧ c[off]? = some v) (hk : K v) : loadK H i off K := loadK_get h hs.2 hk
theorem hl_store {H : AHeap} {i off : Nat} {v : Value} {K : AHeap → Prop} {c c' : List Value} {sz : Nat} (h : H.get i = some (.cells c true sz)) (hs : off < c.length ∧ c.set off v = c') (hk : K (H.set i (.cells c' true sz))) : storeK H i off v K := storeK_at h hs.1 hs.2 hk
theorem hl_own {H : AHeap} {i size upto : Nat} {p : Prop} {c : List Value} (h : H.get i = some (.cells c true size)) (hs : upto ≤ c.length ∧ True) (hp : p) : ownK H i size upto p := ownK_of h hs.1 hp
theorem hl_loads {H : AHeap} {i n : Nat} {K : List Value → Prop} {c : List Value} {own : Bool} {sz : Nat} (h : H.get i = some (.cells c own sz)) (hs : n = c.length ∧ True) (hk : K c) : loadsK H i 0 n K := loadsK_all h hs.1 hk
theorem hl_heap {H : AHeap} {i : Nat} {k : AObj → Prop} {o : AObj} (h : H.get i = some o) (_hs : True ∧ True) (hk : k o) : heapK H i k := heapK_of h hk
/-! building matrices and rows by append -/
theorem OMat.snoc {H K : AHeap} {base o o' r : Nat} {rs : List Nat} {m : List (List Int)} {x : List Int} (h : OMat H base o rs m []) (hb : base ≤ H.size) (hr : H.size ≤ r ∧ r < K.size) (ho : H.size ≤ o' ∧ o' < K.size) (hne : o' ≠ r)
    (g1 : K.get o' = some (.cells (zipS rs m ++ [.slice (some ⟨r, 0, none⟩) x.length x.length]) true 1)) (g2 : K.get r = some (.cells (x.map (Value.int .i64)) true 1)) (g3 : ∀ i, i < H.size → i ≠ o → K.get i = H.get i) : OMat K base o' (rs ++ [r]) (m ++ [x]) [] where
  len := by simp [h.len]
  outer := by rw [g1, zipS_append r x h.len, List.append_nil]
  inner k h1 h2 := by
    simp only [List.length_append, List.length_cons, List.length_nil] at h1 h2
    by_cases hk : k < rs.length
    · have hk2 : k < m.length := by rw [← h.len]; exact hk
      rw [List.getElem_append_left hk, List.getElem_append_left hk2, g3 _ (h.lt.2 _ (List.getElem_mem _)) (fun e => h.no (e ▸ List.getElem_mem _))]
      exact h.inner k hk hk2
    · have hk1 : k = rs.length := by omega
      subst hk1
      have e2 : (m ++ [x])[rs.length] = x := by
        rw [List.getElem_append_right (by rw [h.len]; omega)]; simp [h.len]
      rw [List.getElem_append_right (by omega), e2]
      simpa using g2
  nodup := by
    rw [List.nodup_append]
    refine ⟨h.nodup, by simp, fun a ha b hb' => ?_⟩
    have := h.lt.2 a ha
    simp only [List.mem_singleton] at hb'
    omega
  no := by
    simp only [List.mem_append, List.mem_singleton, not_or]
    exact ⟨fun hm => by have := h.lt.2 _ hm; omega, hne⟩
  lo := ⟨by omega, fun a ha => by
    rcases List.mem_append.1 ha with ha | ha
    · exact h.lo.2 a ha
    · simp only [List.mem_singleton] at ha; omega⟩
  lt := ⟨ho.2, fun a ha => by
    rcases List.mem_append.1 ha with ha | ha
    · have := h.lt.2 a ha; omega
    · simp only [List.mem_singleton] at ha; omega⟩
theorem OMat.one {K : AHeap} {base o' r : Nat} {x : List Int} (hr : base ≤ r ∧ r < K.size) (ho : base ≤ o' ∧ o' < K.size) (hne : o' ≠ r)
    (g1 : K.get o' = some (.cells [.slice (some ⟨r, 0, none⟩) x.length x.length] true 1)) (g2 : K.get r = some (.cells (x.map (Value.int .i64)) true 1)) : OMat K base o' [r] [x] [] where
  len := rfl
  outer := g1
  inner k h1 h2 := by
    simp only [List.length_cons, List.length_nil] at h1
    have hk : k = 0 := by omega
    subst hk
    exact g2
  nodup := by simp
  no := by simpa using hne
  lo := ⟨ho.1, by simpa using hr.1⟩
  lt := ⟨ho.2, by simpa using hr.2⟩
/-- nil, or a matrix of the call's own -/
def OMatV (H : AHeap) (base : Nat) (v : Value) (m : List (List Int)) : Prop := (v = .slice none 0 0 ∧ m = []) ∨ ∃ o rs, v = .slice (some ⟨o, 0, none⟩) m.length m.length ∧ OMat H base o rs m []
/-- nil, or a row of the call's own -/
def ORowV (H : AHeap) (base : Nat) (v : Value) (xs : List Int) : Prop := (v = .slice none 0 0 ∧ xs = []) ∨ ∃ o, v = .slice (some ⟨o, 0, none⟩) xs.length xs.length ∧ H.get o = some (.cells (xs.map (Value.int .i64)) true 1) ∧ base ≤ o ∧ o < H.size
theorem ORowV.fz {H : AHeap} {base b : Nat} {v : Value} {xs : List Int} (h : ORowV H base v xs) (hb : b ≤ base) (hn : xs.length ≤ maxN) (hr : ∀ x ∈ xs, inR x) : ∃ a, v = .slice a xs.length xs.length ∧ Row (H.fz b) a xs := by
  rcases h with ⟨rfl, rfl⟩ | ⟨o, rfl, h1, h2, h3⟩
  · exact ⟨none, rfl, .nil⟩
  · exact ⟨_, rfl, Row.fz h3 (Nat.le_trans hb h2) h1 hn hr⟩
theorem OMatV.fz {H : AHeap} {base b : Nat} {v : Value} {m : List (List Int)} (h : OMatV H base v m) (hb : b ≤ base) (hn : m.length ≤ maxN) (hr : ∀ r ∈ m, r.length ≤ maxN ∧ ∀ x ∈ r, inR x) : ∃ a, v = .slice a m.length m.length ∧ Mat (H.fz b) a m := by
  rcases h with ⟨rfl, rfl⟩ | ⟨o, rs, rfl, h1⟩
  · exact ⟨none, rfl, .nil⟩
  · exact ⟨_, rfl, h1.fz hb hn hr⟩
theorem hl_stores {H : AHeap} {i off : Nat} {vs : List Value} {K : AHeap → Prop} {c c' : List Value} {sz : Nat} (h : H.get i = some (.cells c true sz)) (hs : off + vs.length ≤ c.length ∧ setRange c off vs = c') (hk : K (H.set i (.cells c' true sz))) : storesK H i off vs K :=
  storesK_of h hs.1 (hs.2 ▸ hk)
theorem ORowV.of_get {H H' : AHeap} {base : Nat} {v : Value} {xs : List Int} (h : ORowV H base v xs) (hs : H.size ≤ H'.size) (hg : ∀ i, base ≤ i → i < H.size → H'.get i = H.get i) : ORowV H' base v xs := by
  rcases h with ⟨h1, h2⟩ | ⟨o, h1, h2, h3, h4⟩
  · exact .inl ⟨h1, h2⟩
  · exact .inr ⟨o, h1, (hg o h3 h4).trans h2, h3, Nat.lt_of_lt_of_le h4 hs⟩
theorem ORowV.val {H : AHeap} {base : Nat} {v : Value} {xs : List Int} (h : ORowV H base v xs) : ∃ a, v = .slice a xs.length xs.length := by
  rcases h with ⟨rfl, rfl⟩ | ⟨o, rfl, _⟩
  · exact ⟨none, rfl⟩
  · exact ⟨_, rfl⟩
/-! loading frozen data, in a heap that keeps it -/
theorem loadK_rowK {H0 H : AHeap} {i off : Nat} {xs : List Int} {k : Nat} {K : Value → Prop} (h : Row H0 (some ⟨i, off, none⟩) xs) (hk : Kp H0 H) (he : ∃ he : k < xs.length, K (.int .i64 (xs[k]))) : loadK H i (off + (k : Int).toNat * 1) K := loadK_rowN (h.kp hk) he.1 he.2
theorem loadK_row0K {H0 H : AHeap} {i off : Nat} {xs : List Int} {K : Value → Prop} (h : Row H0 (some ⟨i, off, none⟩) xs) (hk : Kp H0 H) (he : ∃ he : 0 < xs.length, K (.int .i64 (xs[0]))) : loadK H i (off + (0 : Int).toNat * 1) K := loadK_rowK (k := 0) h hk he
/-! rows that are filled from the left -/
def fillN (f : Nat → Int) (L j : Nat) : List Int := (List.range L).map fun i => if i < j then f i else 0
theorem OMat.put {H K : AHeap} {base o r : Nat} {rs : List Nat} {m : List (List Int)} {x : List Int} {y : Value} {rest c : List Value} (h : OMat H base o rs m (y :: rest)) (hb : base ≤ H.size) (hr : H.size ≤ r ∧ r < K.size) (hs : H.size ≤ K.size)
    (hc : c = (zipS rs m ++ y :: rest).set m.length (.slice (some ⟨r, 0, none⟩) x.length x.length)) (g1 : K.get o = some (.cells c true 1)) (g2 : K.get r = some (.cells (x.map (Value.int .i64)) true 1)) (g3 : ∀ i, i < H.size → i ≠ o → K.get i = H.get i) : OMat K base o (rs ++ [r]) (m ++ [x]) rest where
  len := by simp [h.len]
  outer := by
    rw [g1, hc, zipS_append r x h.len, List.set_append_right _ _ (by rw [zipS_len h.len]; omega), zipS_len h.len, Nat.sub_self, List.set_cons_zero, List.append_assoc]
    rfl
  inner k h1 h2 := by
    simp only [List.length_append, List.length_cons, List.length_nil] at h1 h2
    by_cases hk : k < rs.length
    · have hk2 : k < m.length := by rw [← h.len]; exact hk
      rw [List.getElem_append_left hk, List.getElem_append_left hk2, g3 _ (h.lt.2 _ (List.getElem_mem _)) (fun e => h.no (e ▸ List.getElem_mem _))]
      exact h.inner k hk hk2
    · have hk1 : k = rs.length := by omega
      subst hk1
      have e2 : (m ++ [x])[rs.length] = x := by
        rw [List.getElem_append_right (by rw [h.len]; omega)]; simp [h.len]
      rw [List.getElem_append_right (by omega), e2]
      simpa using g2
  nodup := by
    rw [List.nodup_append]
    refine ⟨h.nodup, by simp, fun a ha b hb' => ?_⟩
    have := h.lt.2 a ha
    simp only [List.mem_singleton] at hb'
    omega
  no := by
    simp only [List.mem_append, List.mem_singleton, not_or]
    exact ⟨h.no, by have := h.lt.1; omega⟩
  lo := ⟨h.lo.1, fun a ha => by
    rcases List.mem_append.1 ha with ha | ha
    · exact h.lo.2 a ha
    · simp only [List.mem_singleton] at ha; omega⟩
  lt := ⟨by have := h.lt.1; omega, fun a ha => by
    rcases List.mem_append.1 ha with ha | ha
    · have := h.lt.2 a ha; omega
    · simp only [List.mem_singleton] at ha; omega⟩
/-! loops whose rounds leave marks among what is deferred -/
def dcol (l : List Nat) (d : List Deferred) : List Deferred := l.map (fun r => { target := .collected r, args := #[] }) ++ d
def killAll : AHeap → List Nat → AHeap
  | H, [] => H
  | H, r :: l => killAll (H.kill r) l
theorem OMat.load {H : AHeap} {base o : Nat} {rs : List Nat} {m : List (List Int)} {rest : List Value} (h : OMat H base o rs m rest) {k : Nat} (hk : k < m.length) (hr : k < rs.length) {K : Value → Prop} (hK : K (.slice (some ⟨rs[k], 0, none⟩) m[k].length m[k].length)) : loadK H o (0 + (k : Int).toNat * 1) K := by
  refine loadK_get h.outer ?_ hK
  rw [Int.toNat_natCast, Nat.mul_one, Nat.zero_add, List.getElem?_append_left (by rw [zipS_len h.len]; exact hk)]
  exact zipS_get hr hk
theorem OMat.store {H : AHeap} {base o : Nat} {rs : List Nat} {m : List (List Int)} {rest : List Value} (h : OMat H base o rs m rest) {k j : Nat} (hk : k < m.length) (hr : k < rs.length) (hj : j < m[k].length) {v : Int} {K : AHeap → Prop}
    (hK : ∀ H', OMat H' base o rs (m.set k (m[k].set j v)) rest → H'.size = H.size → (∀ i, i ∉ rs → H'.get i = H.get i) → (∀ H0, Kp H0 H → Kp H0 H') → K H') : storeK H rs[k] (0 + (j : Int).toNat * 1) (.int .i64 v) K := by
  refine storeK_of (h.inner k hr hk) (by simpa using hj) ?_
  rw [Int.toNat_natCast, Nat.mul_one, Nat.zero_add]
  refine hK _ (h.set hk hr v) rfl (fun i hi => AHeap.set_ne _ _ (fun e => hi (e ▸ List.getElem_mem _))) (fun H0 hkp => hkp.set (h.inner k hr hk) rfl _)
/-! the rows' addresses, chosen once for all -/
theorem Sl.exA {α : Type} {R : VR α} {s : Nat} {H : AHeap} {i off : Nat} {xs : List (List α)} (h : Sl (RSl R s) 1 H (some ⟨i, off, none⟩) xs) {k : Nat} (hk : k < xs.length) : ∃ z : Option Addr × Nat, H.cell i (off + k) = some (.slice z.1 xs[k].length z.2) ∧ Sl R s H z.1 xs[k] ∧ CapOk z.1 xs[k].length z.2 := by
  obtain ⟨v, h1, a, cap, h2, h3, h4⟩ := Sl.cell h hk
  cases h2
  exact ⟨(a, cap), h1, h3, h4⟩
theorem Sl.exI {α : Type} {R : VR α} {s : Nat} {H : AHeap} {i off : Nat} {xs : List (List α)} (h : Sl (RSl R s) 1 H (some ⟨i, off, none⟩) xs) {k : Nat} (hk : k < xs.length) (hp : 0 < xs[k].length) : ∃ z : Nat × Nat × Nat, H.cell i (off + k) = some (.slice (some ⟨z.1, z.2.1, none⟩) xs[k].length z.2.2) ∧ Sl R s H (some ⟨z.1, z.2.1, none⟩) xs[k] ∧ xs[k].length ≤ z.2.2 := by
  obtain ⟨⟨a, cap⟩, h1, h2, h3⟩ := h.exA hk
  obtain ⟨i', o', e⟩ := h2.at hp
  dsimp only at e h1 h2 h3
  subst e
  exact ⟨(i', o', cap), h1, h2, h3.2⟩
noncomputable def matA {α : Type} {R : VR α} {s : Nat} {H : AHeap} {i off : Nat} {xs : List (List α)} (h : Sl (RSl R s) 1 H (some ⟨i, off, none⟩) xs) {k : Nat} (hk : k < xs.length) : Option Addr := (Classical.choose (h.exA hk)).1
noncomputable def matC {α : Type} {R : VR α} {s : Nat} {H : AHeap} {i off : Nat} {xs : List (List α)} (h : Sl (RSl R s) 1 H (some ⟨i, off, none⟩) xs) {k : Nat} (hk : k < xs.length) : Nat := (Classical.choose (h.exA hk)).2
noncomputable def matI {α : Type} {R : VR α} {s : Nat} {H : AHeap} {i off : Nat} {xs : List (List α)} (h : Sl (RSl R s) 1 H (some ⟨i, off, none⟩) xs) {k : Nat} (hk : k < xs.length) (hp : 0 < xs[k].length) : Nat := (Classical.choose (h.exI hk hp)).1
noncomputable def matO {α : Type} {R : VR α} {s : Nat} {H : AHeap} {i off : Nat} {xs : List (List α)} (h : Sl (RSl R s) 1 H (some ⟨i, off, none⟩) xs) {k : Nat} (hk : k < xs.length) (hp : 0 < xs[k].length) : Nat := (Classical.choose (h.exI hk hp)).2.1
noncomputable def matD {α : Type} {R : VR α} {s : Nat} {H : AHeap} {i off : Nat} {xs : List (List α)} (h : Sl (RSl R s) 1 H (some ⟨i, off, none⟩) xs) {k : Nat} (hk : k < xs.length) (hp : 0 < xs[k].length) : Nat := (Classical.choose (h.exI hk hp)).2.2
theorem cell_kp {α : Type} {R : VR α} {sz : Nat} {H0 H : AHeap} {i off j : Nat} {xs : List α} {v : Value} (h : Sl R sz H0 (some ⟨i, off, none⟩) xs) (hk : Kp H0 H) (hc : H0.cell i j = some v) : H.cell i j = some v := by
  cases h with
  | mk hb hn _ _ =>
    obtain ⟨hi, s, hg⟩ := hb
    have hg' := hk.get _ _ _ hi hg
    unfold AHeap.cell at hc ⊢
    rw [hg] at hc
    rw [hg']
    exact hc
theorem loadK_matP {α : Type} {R : VR α} {s : Nat} {H0 H : AHeap} {i off : Nat} {xs : List (List α)} {k : Nat} {K : Value → Prop} (h : Sl (RSl R s) 1 H0 (some ⟨i, off, none⟩) xs) (hk : Kp H0 H) (he : ∃ (he : k < xs.length) (hp : 0 < xs[k].length), Sl R s H0 (some ⟨matI h he hp, matO h he hp, none⟩) xs[k] → xs[k].length ≤ matD h he hp → K (.slice (some ⟨matI h he hp, matO h he hp, none⟩) xs[k].length (matD h he hp))) : loadK H i (off + (k : Int).toNat * 1) K := by
  obtain ⟨he, hp, hK⟩ := he
  have hs := Classical.choose_spec (h.exI he hp)
  exact loadK_of (by rw [Nat.mul_one, Int.toNat_natCast]; exact cell_kp h hk hs.1) (hK hs.2.1 hs.2.2)
theorem loadK_matQ {α : Type} {R : VR α} {s : Nat} {H0 H : AHeap} {i off : Nat} {xs : List (List α)} {k : Nat} {K : Value → Prop} (h : Sl (RSl R s) 1 H0 (some ⟨i, off, none⟩) xs) (hk : Kp H0 H) (he : ∃ he : k < xs.length, Sl R s H0 (matA h he) xs[k] → CapOk (matA h he) xs[k].length (matC h he) → K (.slice (matA h he) xs[k].length (matC h he))) : loadK H i (off + (k : Int).toNat * 1) K := by
  obtain ⟨he, hK⟩ := he
  have hs := Classical.choose_spec (h.exA he)
  exact loadK_of (by rw [Nat.mul_one, Int.toNat_natCast]; exact cell_kp h hk hs.1) (hK hs.2.1 hs.2.2)
theorem loadK_mat0P {α : Type} {R : VR α} {s : Nat} {H0 H : AHeap} {i off : Nat} {xs : List (List α)} {K : Value → Prop} (h : Sl (RSl R s) 1 H0 (some ⟨i, off, none⟩) xs) (hk : Kp H0 H) (he : ∃ (he : 0 < xs.length) (hp : 0 < xs[0].length), Sl R s H0 (some ⟨matI h he hp, matO h he hp, none⟩) xs[0] → xs[0].length ≤ matD h he hp → K (.slice (some ⟨matI h he hp, matO h he hp, none⟩) xs[0].length (matD h he hp))) : loadK H i (off + (0 : Int).toNat * 1) K := loadK_matP (k := 0) h hk he
theorem loadK_mat0Q {α : Type} {R : VR α} {s : Nat} {H0 H : AHeap} {i off : Nat} {xs : List (List α)} {K : Value → Prop} (h : Sl (RSl R s) 1 H0 (some ⟨i, off, none⟩) xs) (hk : Kp H0 H) (he : ∃ he : 0 < xs.length, Sl R s H0 (matA h he) xs[0] → CapOk (matA h he) xs[0].length (matC h he) → K (.slice (matA h he) xs[0].length (matC h he))) : loadK H i (off + (0 : Int).toNat * 1) K := loadK_matQ (k := 0) h hk he
theorem loadK_matZP {α : Type} {R : VR α} {s : Nat} {H0 H : AHeap} {i off : Nat} {xs : List (List α)} {e : Int} {K : Value → Prop} (h : Sl (RSl R s) 1 H0 (some ⟨i, off, none⟩) xs) (hk : Kp H0 H) (he : ∃ (he : e.toNat < xs.length) (hp : 0 < xs[e.toNat].length), Sl R s H0 (some ⟨matI h he hp, matO h he hp, none⟩) xs[e.toNat] → xs[e.toNat].length ≤ matD h he hp → K (.slice (some ⟨matI h he hp, matO h he hp, none⟩) xs[e.toNat].length (matD h he hp))) : loadK H i (off + e.toNat * 1) K := by
  obtain ⟨he, hp, hK⟩ := he
  have hs := Classical.choose_spec (h.exI he hp)
  exact loadK_of (by rw [Nat.mul_one]; exact cell_kp h hk hs.1) (hK hs.2.1 hs.2.2)
theorem loadK_matZQ {α : Type} {R : VR α} {s : Nat} {H0 H : AHeap} {i off : Nat} {xs : List (List α)} {e : Int} {K : Value → Prop} (h : Sl (RSl R s) 1 H0 (some ⟨i, off, none⟩) xs) (hk : Kp H0 H) (he : ∃ he : e.toNat < xs.length, Sl R s H0 (matA h he) xs[e.toNat] → CapOk (matA h he) xs[e.toNat].length (matC h he) → K (.slice (matA h he) xs[e.toNat].length (matC h he))) : loadK H i (off + e.toNat * 1) K := by
  obtain ⟨he, hK⟩ := he
  have hs := Classical.choose_spec (h.exA he)
  exact loadK_of (by rw [Nat.mul_one]; exact cell_kp h hk hs.1) (hK hs.2.1 hs.2.2)
theorem loadK_boolZ {H0 H : AHeap} {i off : Nat} {xs : List Bool} {e : Int} {K : Value → Prop} (h : Sl RBool 1 H0 (some ⟨i, off, none⟩) xs) (hk : Kp H0 H) (he : ∃ he : e.toNat < xs.length, K (.bool (xs[e.toNat]))) : loadK H i (off + e.toNat * 1) K := by
  obtain ⟨h1, h2⟩ := he
  obtain ⟨v, g1, g2⟩ := (h.kp rBool_mono hk).cell h1
  cases g2
  exact loadK_of (by rw [Nat.mul_one]; exact g1) h2
theorem loadK_strZ {H0 H : AHeap} {i off : Nat} {xs : List ByteArray} {e : Int} {K : Value → Prop} (h : Sl RStr 1 H0 (some ⟨i, off, none⟩) xs) (hk : Kp H0 H) (he : ∃ he : e.toNat < xs.length, K (.string (xs[e.toNat]))) : loadK H i (off + e.toNat * 1) K := by
  obtain ⟨h1, h2⟩ := he
  obtain ⟨v, g1, g2, _⟩ := (h.kp rStr_mono hk).cell h1
  cases g2
  exact loadK_of (by rw [Nat.mul_one]; exact g1) h2
theorem loadK_byteZ {H0 H : AHeap} {i off : Nat} {xs : List Nat} {e : Int} {K : Value → Prop} (h : Sl RByte 1 H0 (some ⟨i, off, none⟩) xs) (hk : Kp H0 H) (he : ∃ he : e.toNat < xs.length, K (.int .u8 (xs[e.toNat]))) : loadK H i (off + e.toNat * 1) K := by
  obtain ⟨h1, h2⟩ := he
  obtain ⟨v, g1, g2, _⟩ := (h.kp rByte_mono hk).cell h1
  cases g2
  exact loadK_of (by rw [Nat.mul_one]; exact g1) h2
theorem condK_neR {α : Type} {x : α} [Decidable (x = x)] {a b : Prop} (h : b) : condK (!decide (x = x)) a b := condK_false (by simp) h
theorem condK_eqR {α : Type} {x : α} [Decidable (x = x)] {a b : Prop} (h : a) : condK (decide (x = x)) a b := condK_true (by simp) h
theorem pickK_neR {α : Type} {x : α} [Decidable (x = x)] {a b : Value} {K : Value → Prop} (h : K b) : pickK (!decide (x = x)) a b K := pickK_false (by simp) h
theorem pickK_eqR {α : Type} {x : α} [Decidable (x = x)] {a b : Value} {K : Value → Prop} (h : K a) : pickK (decide (x = x)) a b K := pickK_true (by simp) h
theorem loadK_rowZ {H0 H : AHeap} {i off : Nat} {xs : List Int} {e : Int} {K : Value → Prop} (h : Row H0 (some ⟨i, off, none⟩) xs) (hk : Kp H0 H) (he : ∃ he : e.toNat < xs.length, K (.int .i64 (xs[e.toNat]))) : loadK H i (off + e.toNat * 1) K :=
  let ⟨h1, h2⟩ := he
  loadK_of (v := .int .i64 (xs[e.toNat]'h1)) (by rw [Nat.mul_one]; exact (h.kp hk).get h1) h2
theorem Kp.setE {H K : AHeap} (h : Kp H K) {i : Nat} (g : ∃ o, K.get i = some o ∧ o.own = true) (o' : AObj) : Kp H (K.set i o') := let ⟨_, h1, h2⟩ := g; h.set h1 h2 o'
theorem Kp.killE {H K : AHeap} (h : Kp H K) {i : Nat} (g : ∃ o, K.get i = some o ∧ o.own = true) : Kp H (K.kill i) := let ⟨_, h1, h2⟩ := g; h.kill h1 h2
/-! short names, for the walks' lines -/
abbrev zA := @condK_decT
abbrev zB := @condK_decF
abbrev zC := @pickK_decT
abbrev zD := @pickK_decF
abbrev zE := @condK_ndT
abbrev zF := @condK_ndF
abbrev zG := @pickK_ndT
abbrev zH := @pickK_ndF
abbrev zI := @condK_true
abbrev zJ := @condK_false
abbrev zK := @pickK_true
abbrev zL := @pickK_false
abbrev zM := @condK_neR
abbrev zN := @pickK_neR
abbrev zO := @condK_eqR
abbrev zP := @pickK_eqR
abbrev zQ := @condK_t
abbrev zR := @condK_f
abbrev zS := @pickK_t
abbrev zT := @pickK_f
abbrev zU := @reqK_t
abbrev zV := @intK_in
abbrev zW := @reqK_not
abbrev zX := @reqK_dec
abbrev zY := @reqK_and
abbrev zZ := @sameK_rfl
abbrev yA := @condK_nt
abbrev yB := @condK_nf
abbrev yC := @loadK_row0K
abbrev yD := @loadK_rowK
abbrev yE := @loadK_mat0P
abbrev yF := @loadK_matP
abbrev yG := @loadK_rowZ
abbrev yH := @loadK_mat0Q
abbrev yI := @loadK_matQ
abbrev wA := @loadK_matZP
abbrev wB := @loadK_matZQ
abbrev wC := @loadK_boolZ
abbrev wD := @loadK_strZ
abbrev wE := @loadK_byteZ
abbrev yJ := @hl_load
abbrev yK := @hl_store
abbrev yL := @hl_stores
abbrev yM := @hl_own
abbrev yN := @hl_loads
abbrev yO := @hl_heap
abbrev yP := @AHeap.set_at
abbrev yQ := @AHeap.push_at
abbrev yR := @AHeap.set_ne
abbrev yS := @AHeap.push_ne
abbrev yT := @AHeap.kill_ne
abbrev yU := @AHeap.le.get
abbrev yV := @Kp.push
abbrev yW := @Kp.setE
abbrev yX := @Kp.killE
abbrev yY := @AHeap.le.kp
/-! strings compared -/
theorem str_self (s : ByteArray) : (s.toList == s.toList) = true := by simp
theorem xA {s t : ByteArray} {a b : Prop} (h : s = t) (ha : a) : condK (s.toList == t.toList) a b := condK_true (by subst h; exact str_self s) ha
theorem xB {s t : ByteArray} {a b : Prop} (h : (s.toList == t.toList) = false) (hb : b) : condK (s.toList == t.toList) a b := condK_false h hb
theorem xC {s t : ByteArray} {a b : Value} {K : Value → Prop} (h : s = t) (ha : K a) : pickK (s.toList == t.toList) a b K := pickK_true (by subst h; exact str_self s) ha
theorem xD {s t : ByteArray} {a b : Value} {K : Value → Prop} (h : (s.toList == t.toList) = false) (hb : K b) : pickK (s.toList == t.toList) a b K := pickK_false h hb
theorem xE {s t : ByteArray} {a b : Prop} (h : s = t) (hb : b) : condK (!(s.toList == t.toList)) a b := condK_false (by subst h; simp) hb
theorem xF {s t : ByteArray} {a b : Prop} (h : (s.toList == t.toList) = false) (ha : a) : condK (!(s.toList == t.toList)) a b := condK_true (by rw [h]; rfl) ha
theorem xG {s t : ByteArray} {a b : Value} {K : Value → Prop} (h : s = t) (hb : K b) : pickK (!(s.toList == t.toList)) a b K := pickK_false (by subst h; simp) hb
theorem xH {s t : ByteArray} {a b : Value} {K : Value → Prop} (h : (s.toList == t.toList) = false) (ha : K a) : pickK (!(s.toList == t.toList)) a b K := pickK_true (by rw [h]; rfl) ha
end Go.Abs
