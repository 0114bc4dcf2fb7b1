/- Primitive operations, continued: the whole table of what an operation does. -/
import Derived.Test.YtbmbabgkpcnppaaAbsPrim
set_option linter.all false
namespace Go.Abs
open Go

/-- the cells of a value that is stored -/
abbrev cellsK (v : Value) (k : List Value → Prop) : Prop :=
  match v with
  | .agg cs => (match cs.toList.all oneCell with | true => k cs.toList | false => False)
  | .tuple _ => False
  | .complex _ _ _ => False
  | v => k [v]
abbrev okK (d : TD) (p : Prop) : Prop := match d with | .other => False | _ => p
theorem okK_elim {d : TD} {p : Prop} (h : okK d p) : d ≠ .other ∧ p := by unfold okK at h; split at h <;> first | exact h.elim | exact ⟨by simp_all, h⟩
abbrev putsK : List Value → Nat → List Value → (List Value → Prop) → Prop
  | cs, _, [], k => k cs
  | cs, off, v :: vs, k => setK cs off v fun cs' => putsK cs' (off + 1) vs k
abbrev bothK (a b : Bool) (p : Prop) : Prop := match a with | true => (match b with | true => p | false => False) | false => False
abbrev nthK {α : Type} : List α → Nat → (α → Prop) → Prop
  | [], _, _ => False
  | x :: _, 0, k => k x
  | _ :: xs, i + 1, k => nthK xs i k
/-- parts of a struct: (field, value) -/
abbrev fillSK (tt : Tab) (fs : List (Nat × TypeId)) : List (Nat × Value) → List Value → (List Value → Prop) → Prop
  | [], cs, k => k cs
  | (i, v) :: rest, cs, k => nthK fs i fun f => tyK tt f.2 fun te => cellsK v fun vs =>
      bothK (Nat.beq vs.length te.size) (Nat.ble (f.1 + vs.length) cs.length) (okK te.d (putsK cs f.1 vs fun cs' => fillSK tt fs rest cs' k))
/-- parts of an array or a slice of elements of so many cells -/
abbrev fillAK (size : Nat) : List (Nat × Value) → List Value → (List Value → Prop) → Prop
  | [], cs, k => k cs
  | (i, v) :: rest, cs, k => cellsK v fun vs =>
      bothK (Nat.beq vs.length size) (Nat.ble (i * size + vs.length) cs.length) (putsK cs (i * size) vs fun cs' => fillAK size rest cs' k)
/-- the cells of n zero values -/
abbrev zeroRow (n : Nat) (z : List Value) : List Value :=
  match z with
  | [v] => List.replicate n v
  | z => (List.replicate n z).flatten

def bytesV (s : ByteArray) : List Value := s.data.toList.map fun b => .int .u8 b.toNat
def byteV : Value → UInt8
  | .int _ n => UInt8.ofNat n.toNat
  | _ => 0
def strV (vs : List Value) : ByteArray := ⟨(vs.map byteV).toArray⟩
def allU8 : List Value → Bool
  | [] => true
  | .int .u8 _ :: vs => allU8 vs
  | _ :: _ => false
def sAt (s : ByteArray) (i : Nat) : Int := (s.data.toList.getD i 0).toNat

def optK (t : List Value) : Option Operand → (Option Value → Prop) → Prop
  | none, k => k none
  | some x, k => evalK t x fun v => k (some v)
abbrev lowK (o : Option Value) (k : Int → Prop) : Prop := match o with | none => k 0 | some (.int _ i) => k i | _ => False
abbrev highK (o : Option Value) (d : Nat) (k : Int → Prop) : Prop := match o with | none => k d | some (.int _ i) => k i | _ => False

abbrev sliceK (tt : Tab) (ty : TypeId) (x : Value) (lo hi : Option Value) (H : AHeap) (k : Value → AHeap → Prop) : Prop :=
  tyK tt ty fun te => match te.d with
  | .string => (match x with
    | .string s => lowK lo fun l => highK hi s.size fun h => reqK (decide (0 ≤ l) && decide (l ≤ h) && decide (h ≤ s.size)) (k (.string (s.extract l.toNat h.toNat)) H)
    | _ => False)
  | .slice e => tyK tt e fun ee => (match x with
    | .slice (some ⟨i, off, _⟩) len cap => lowK lo fun l => highK hi len fun h => reqK (decide (0 ≤ l) && decide (l ≤ h) && decide (h ≤ cap))
        (okK ee.d (k (.slice (some ⟨i, off + l.toNat * ee.size, none⟩) (h.toNat - l.toNat) (cap - l.toNat)) H))
    | .slice none 0 0 => lowK lo fun l => highK hi 0 fun h => reqK (decide (l = 0) && decide (h = 0)) (okK ee.d (k (.slice none 0 0) H))
    | _ => False)
  | _ => False

abbrev maxesK : Int → List Value → (Int → Prop) → Prop
  | m, [], k => k m
  | m, .int _ y :: vs, k => maxesK (max m y) vs k
  | _, _ :: _, _ => False
abbrev minsK : Int → List Value → (Int → Prop) → Prop
  | m, [], k => k m
  | m, .int _ y :: vs, k => minsK (min m y) vs k
  | _, _ :: _, _ => False

/-- the cells of what is appended or copied, so many elements -/
abbrev srcK (H : AHeap) (size : Nat) (x : Value) (k : Nat → List Value → Prop) : Prop :=
  match x with
  | .slice (some ⟨i, off, _⟩) n _ => loadsK H i off (n * size) fun vs => k n vs
  | .slice none 0 0 => k 0 []
  | .string s => (match Nat.beq size 1 with | true => k s.size (bytesV s) | false => False)
  | _ => False
/-- the block is the call's own, of elements of that size, and bears what its slice says -/
@[irreducible] def ownK (H : AHeap) (i size upto : Nat) (p : Prop) : Prop :=
  match H.get i with
  | some (.cells c true sz) => bothK (Nat.beq sz size) (Nat.ble upto c.length) p
  | _ => False
theorem bothK_elim {a b : Bool} {p : Prop} (h : bothK a b p) : a = true ∧ b = true ∧ p := by unfold bothK at h; cases a <;> cases b <;> simp_all
theorem ownK_of {H : AHeap} {i size upto : Nat} {p : Prop} {c : List Value} (h : H.get i = some (.cells c true size)) (hl : upto ≤ c.length) (hp : p) : ownK H i size upto p := by
  unfold ownK; simp only [h, AHeap.nbeq_self, Nat.ble_eq_true_of_le hl, bothK]; exact hp
theorem ownK_elim {H : AHeap} {i size upto : Nat} {p : Prop} (h : ownK H i size upto p) : ∃ c, H.get i = some (.cells c true size) ∧ upto ≤ c.length ∧ p := by
  unfold ownK at h
  split at h
  · rename_i c sz hc
    obtain ⟨h1, h2, h3⟩ := bothK_elim h
    rw [Nat.eq_of_beq_eq_true h1] at hc
    exact ⟨c, hc, Nat.le_of_ble_eq_true h2, h3⟩
  · exact h.elim
def TD.seq : TD → Bool
  | .slice _ | .string => true
  | _ => false
abbrev appTailK (ee : TE) (n : Nat) (new : List Value) (s : Value) (H : AHeap) (k : Value → AHeap → Prop) : Prop :=
  match s with
  | .slice none 0 0 => condK (Nat.beq n 0) (k (.slice none 0 0) H)
      (reqK (decide (n * (ee.bytes + 1) ≤ 35184372088832)) (k (.slice (some ⟨H.size, 0, none⟩) n n) (H.push (.cells new true ee.size))))
  | .slice (some ⟨i, off, _⟩) len cap => ownK H i ee.size (off + cap * ee.size) (loadsK H i off (len * ee.size) fun old =>
        reqK (decide (len ≤ cap) && decide ((len + n) * (ee.bytes + 1) ≤ 35184372088832))
        (k (.slice (some ⟨H.size, 0, none⟩) (len + n) (len + n)) ((H.kill i).push (.cells (old ++ new) true ee.size))))
  | _ => False
abbrev appendK (tt : Tab) (ty xty : TypeId) (s x : Value) (H : AHeap) (k : Value → AHeap → Prop) : Prop :=
  tyK tt xty fun tx => match tx.d with
  | .int _ => tyK tt ty fun te => (match te.d with
    | .slice e => tyK tt e fun ee => okK ee.d (match x with
      | .int _ l => reqK (decide (0 ≤ l) && decide (l * (ee.bytes + 1) ≤ 35184372088832)) (appTailK ee l.toNat (zeroRow l.toNat ee.zero.cells.toList) s H k)
      | _ => False)
    | _ => False)
  | _ => bothK tx.d.seq true (tyK tt ty fun te => match te.d with
    | .slice e => tyK tt e fun ee => okK ee.d (srcK H ee.size x fun n new => appTailK ee n new s H k)
    | _ => False)
abbrev copyK (tt : Tab) (ty : TypeId) (s x : Value) (H : AHeap) (k : Value → AHeap → Prop) : Prop :=
  tyK tt ty fun te => match te.d with
  | .slice e => tyK tt e fun ee => okK ee.d (srcK H ee.size x fun n new => (match s with
    | .slice none 0 0 => k (.int .i64 0) H
    | .slice (some ⟨i, off, _⟩) len _ => storesK H i off (new.take (min n len * ee.size)) fun H' => k (.int .i64 (min n len : Nat)) H'
    | _ => False))
  | _ => False

abbrev lenK (tt : Tab) (ty : TypeId) (x : Value) (H : AHeap) (k : Value → Prop) : Prop :=
  tyK tt ty fun te => match te.d with
  | .string => (match x with | .string s => k (.int .i64 s.size) | _ => False)
  | .slice _ => (match x with | .slice _ n _ => k (.int .i64 n) | _ => False)
  | .arr n _ => k (.int .i64 n)
  | .map _ _ => (match x with
    | .map none => k (.int .i64 0)
    | .map (some r) => (match H.get r with | some (.map es _ _) => k (.int .i64 es.length) | _ => False)
    | _ => False)
  | _ => False

abbrev convK (tt : Tab) (src dst : TypeId) (x : Value) (H : AHeap) (k : Value → AHeap → Prop) : Prop :=
  tyK tt src fun ts => tyK tt dst fun td => match td.d with
  | .int kd => (match ts.d with
    | .int _ => (match x with | .int _ n => intK kd n fun m => k (.int kd m) H | _ => False)
    | _ => False)
  | .string => (match ts.d with
    | .string => (match x with | .string s => k (.string s) H | _ => False)
    | .slice e => tyK tt e fun ee => (match ee.d with
      | .int .u8 => (match x with
        | .slice none _ _ => k (.string .empty) H
        | .slice (some ⟨i, off, _⟩) n _ => loadsK H i off n fun vs => reqK (allU8 vs) (k (.string (strV vs)) H)
        | _ => False)
      | _ => False)
    | _ => False)
  | .slice e => (match ts.d with
    | .string => tyK tt e fun ee => (match ee.d with
      | .int .u8 => (match x with
        | .string s => reqK (decide (s.size ≤ 35184372088832)) (k (.slice (some ⟨H.size, 0, none⟩) s.size s.size) (H.push (.cells (bytesV s) true 1)))
        | _ => False)
      | _ => False)
    | _ => False)
  | _ => False

def TD.isIface : TD → Bool
  | .iface _ => true
  | _ => false
/-- a part of an aggregate -/
abbrev partK (te : TE) (cs : List Value) (off : Nat) (k : Value → Prop) : Prop :=
  match te.d.agg with
  | true => reqK (Nat.ble (off + te.size) cs.length) (k (.agg ((cs.drop off).take te.size).toArray))
  | false => nthK cs off k
/-- a variable's value is read -/
abbrev readK (te : TE) (H : AHeap) (i off : Nat) (k : Value → Prop) : Prop :=
  match te.d.agg with
  | true => loadsK H i off te.size fun vs => k (.agg vs.toArray)
  | false => loadK H i off k
/-- a variable is written -/
abbrev writeK (te : TE) (H : AHeap) (i off : Nat) (u : Value) (k : AHeap → Prop) : Prop :=
  match u with
  | .agg cs => bothK te.d.agg (Nat.beq cs.toList.length te.size) (reqK (cs.toList.all oneCell) (storesK H i off cs.toList k))
  | .tuple _ => False
  | .complex _ _ _ => False
  | u => bothK (!te.d.agg) (Nat.beq te.size 1) (storeK H i off u k)

/-! maps whose keys are integers, strings or bools -/
def TD.keyDesc : TD → Option TypeDesc
  | .int k => some (.int k)
  | .string => some .string
  | .bool => some .bool
  | _ => none
@[irreducible] def findK (d : TD) (key : Value) (es : List MapEntry) (K : Option (Nat × Value) → Prop) : Prop :=
  match d.keyDesc with
  | some td => (match Instr.findNow td key es 0 with | some r => K r | none => False)
  | none => False
theorem findK_of {d : TD} {key : Value} {es : List MapEntry} {K : Option (Nat × Value) → Prop} {td : TypeDesc} {r : Option (Nat × Value)} (h1 : d.keyDesc = some td) (h2 : Instr.findNow td key es 0 = some r) (hk : K r) : findK d key es K := by
  unfold findK; rw [h1]; simp only [h2]; exact hk
theorem findK_elim {d : TD} {key : Value} {es : List MapEntry} {K : Option (Nat × Value) → Prop} (h : findK d key es K) : ∃ td r, d.keyDesc = some td ∧ Instr.findNow td key es 0 = some r ∧ K r := by
  unfold findK at h
  split at h
  · rename_i td htd
    split at h
    · rename_i r hr; exact ⟨td, r, htd, hr, h⟩
    · exact h.elim
  · exact h.elim
@[irreducible] def bornK (es : List MapEntry) (n : Int) (K : Nat → Prop) : Prop :=
  match es.findIdx? (fun e => (e.born : Int) == n) with
  | some i => K i
  | none => False
theorem bornK_of {es : List MapEntry} {n : Int} {K : Nat → Prop} {i : Nat} (h : es.findIdx? (fun e => (e.born : Int) == n) = some i) (hk : K i) : bornK es n K := by unfold bornK; rw [h]; exact hk
theorem bornK_elim {es : List MapEntry} {n : Int} {K : Nat → Prop} (h : bornK es n K) : ∃ i, es.findIdx? (fun e => (e.born : Int) == n) = some i ∧ K i := by
  unfold bornK at h
  split at h
  · rename_i i hi; exact ⟨i, hi, h⟩
  · exact h.elim
abbrev okV (ok : Bool) (v : Value) (b : Bool) : Value := match ok with | true => .tuple #[v, .bool b] | false => v
abbrev mapTyK (tt : Tab) (ty : TypeId) (k : TE → TE → Prop) : Prop := tyK tt ty fun te => match te.d with
  | .map kt et => tyK tt kt fun ke => tyK tt et fun ee => okK ee.d (k ke ee)
  | _ => False
abbrev lookupK (tt : Tab) (ty : TypeId) (m key : Value) (ok : Bool) (H : AHeap) (k : Value → AHeap → Prop) : Prop :=
  mapTyK tt ty fun ke ee => match m with
  | .map none => findK ke.d key [] fun _ => k (okV ok ee.zero false) H
  | .map (some r) => heapK H r fun o => (match o with
    | .map es _ _ => findK ke.d key es fun res => (match res with
      | some x => k (okV ok x.2 true) H
      | none => k (okV ok ee.zero false) H)
    | _ => False)
  | _ => False
abbrev mapUpdK (tt : Tab) (ty : TypeId) (m key x : Value) (H : AHeap) (k : AHeap → Prop) : Prop :=
  mapTyK tt ty fun ke _ => match m with
  | .map (some r) => heapK H r fun o => (match o with
    | .map es clock true => findK ke.d key es fun res => (match res with
      | some y => k (H.set r (.map (es.modify y.1 fun e => ⟨key, x, e.born⟩) clock true))
      | none => k (H.set r (.map (es ++ [⟨key, x, clock⟩]) (clock + 1) true)))
    | _ => False)
  | _ => False
abbrev mapEntK (tt : Tab) (ty : TypeId) (m key : Value) (H : AHeap) (k : Value → AHeap → Prop) : Prop :=
  mapTyK tt ty fun ke ee => match m with
  | .map (some r) => heapK H r fun o => (match o with
    | .map es clock true => findK ke.d key es fun res => (match res with
      | some y => k (.tuple #[y.2, .int .i64 (((es[y.1]?).map (·.born)).getD 0 : Nat)]) (H.set r (.map (es.modify y.1 fun e => ⟨key, e.val, e.born⟩) clock true))
      | none => k (.tuple #[ee.zero, .int .i64 (clock : Nat)]) (H.set r (.map (es ++ [⟨key, ee.zero, clock⟩]) (clock + 1) true)))
    | _ => False)
  | _ => False
abbrev entStK (m s x : Value) (H : AHeap) (k : AHeap → Prop) : Prop :=
  match m with
  | .map (some r) => (match s with
    | .int _ n => heapK H r fun o => (match o with
      | .map es clock true => bornK es n fun i => k (H.set r (.map (es.modify i fun e => ⟨e.key, x, e.born⟩) clock true))
      | _ => False)
    | _ => False)
  | _ => False
abbrev delK (tt : Tab) (ty : TypeId) (m key : Value) (H : AHeap) (k : AHeap → Prop) : Prop :=
  mapTyK tt ty fun ke _ => match m with
  | .map none => findK ke.d key [] fun _ => k H
  | .map (some r) => heapK H r fun o => (match o with
    | .map es clock true => findK ke.d key es fun res => (match res with
      | some y => k (H.set r (.map (es.eraseIdx y.1) clock true))
      | none => k (H.set r (.map es clock true)))
    | _ => False)
  | _ => False

/-- what an operation that calls nothing does -/
def primK (tt : Tab) (op : Op) (t : List Value) (H : AHeap) (k : Value → AHeap → Prop) : Prop :=
  match op with
  | .move x => evalK t x fun v => k v H
  | .assign x => evalK t x fun v => k v H
  | .pick c a b => evalK t c fun vc => evalK t a fun va => evalK t b fun vb => (match vc with | .bool c => pickK c va vb fun v => k v H | _ => False)
  | .alloc e => tyK tt e fun te => okK te.d (k (.pointer (some ⟨H.size, 0, none⟩)) (H.push (.cells te.zero.cells.toList true 0)))
  | .box _ x => evalK t x fun v => cellsK v fun cs => k (.pointer (some ⟨H.size, 0, none⟩)) (H.push (.cells cs true 0))
  | .build ty ps => evalPK t ps.toList fun vs => tyK tt ty fun te => (match te.d with
    | .struct fs => fillSK tt fs vs te.zero.cells.toList fun cs => k (.agg cs.toArray) H
    | .arr _ e => tyK tt e fun ee => okK ee.d (fillAK ee.size vs te.zero.cells.toList fun cs => k (.agg cs.toArray) H)
    | _ => False)
  | .buildSlice ty n ps => evalPK t ps.toList fun vs => tyK tt ty fun te => (match te.d with
    | .slice e => tyK tt e fun ee => okK ee.d (bothK (Nat.ble (n * ee.size) 16777216) true
        (fillAK ee.size vs (zeroRow n ee.zero.cells.toList) fun cs => k (.slice (some ⟨H.size, 0, none⟩) n n) (H.push (.cells cs true ee.size))))
    | _ => False)
  | .load ty x => evalK t x fun v => (match v with
    | .pointer (some ⟨i, off, _⟩) => tyK tt ty fun te => okK te.d (readK te H i off fun v => k v H)
    | _ => False)
  | .store ty x y => evalK t x fun v => evalK t y fun u => (match v with
    | .pointer (some ⟨i, off, _⟩) => tyK tt ty fun te => okK te.d (writeK te H i off u fun H' => k undef H')
    | _ => False)
  | .nilCheck x => evalK t x fun v => (match v with
    | .pointer (some a) => k (.pointer (some a)) H
    | .iface u y => k (.iface u y) H
    | .func (.func f) a b => k (.func (.func f) a b) H
    | .func (.yield f) a b => k (.func (.yield f) a b) H
    | .func (.method m) a b => (match a.toList with
      | .iface u y :: _ => tyK tt u fun te => okK te.d (bothK (te.ms.contains m) true (k (.func (.method m) a b) H))
      | _ => False)
    | .slice a b c => k (.slice a b c) H
    | _ => False)
  | .binOp op ty x y _ => evalK t x fun a => evalK t y fun b => binK tt op ty a b fun v => k v H
  | .unOp op _ x => evalK t x fun v => (match op with
    | .neg => (match v with | .int kk n => intK kk (0 - n) fun m => k (.int kk m) H | _ => False)
    | .not => (match v with | .bool b => k (.bool (!b)) H | _ => False)
    | .xor => (match v with | .int kk n => k (.int kk (bitsOf .xor kk (if kk.signed then -1 else kk.max) n)) H | _ => False)
    | _ => False)
  | .convert src dst x => evalK t x fun v => convK tt src dst v H k
  | .makeInterface ty x => evalK t x fun v => tyK tt ty fun te => okK te.d (bothK (!te.d.isIface) true (k (.iface ty v) H))
  | .makeFunc fn fs cs => evalsK t fs.toList fun a => evalsK t cs.toList fun b => (match fn with
    | .func f => k (.func (.func f) a.toArray b.toArray) H
    | .method m => k (.func (.method m) a.toArray b.toArray) H
    | _ => False)
  | .makeSlice ty l c => evalK t l fun vl => evalK t c fun vc => (match vl with
    | .int _ l => (match vc with
      | .int _ c => tyK tt ty fun te => (match te.d with
        | .slice e => tyK tt e fun ee => okK ee.d (reqK (decide (0 ≤ l) && decide (l ≤ c) && decide (c * (ee.bytes + 1) ≤ 35184372088832))
            (k (.slice (some ⟨H.size, 0, none⟩) l.toNat c.toNat) (H.push (.cells (zeroRow c.toNat ee.zero.cells.toList) true ee.size))))
        | _ => False)
      | _ => False)
    | _ => False)
  | .slice ty x lo hi none => evalK t x fun v => optK t lo fun l => optK t hi fun h => sliceK tt ty v l h H k
  | .fieldAddr ty x f => evalK t x fun v => (match v with
    | .pointer (some ⟨i, off, _⟩) => tyK tt ty fun te => (match te.d with
      | .struct fs => nthK fs f fun fd => tyK tt fd.2 fun fe => okK fe.d (match Nat.beq fe.size 0 with | true => False | false => k (.pointer (some ⟨i, off + fd.1, none⟩)) H)
      | _ => False)
    | _ => False)
  | .field ty x f => evalK t x fun v => (match v with
    | .agg cs => tyK tt ty fun te => (match te.d with
      | .struct fs => nthK fs f fun fd => tyK tt fd.2 fun fe => okK fe.d (partK fe cs.toList fd.1 fun u => k u H)
      | _ => False)
    | _ => False)
  | .indexAddr ty x ix => evalK t x fun v => evalK t ix fun vi => (match vi with
    | .int _ i => tyK tt ty fun te => (match te.d with
      | .slice e => tyK tt e fun ee => okK ee.d (match v with
          | .slice (some ⟨b, off, _⟩) len _ => reqK (decide (0 ≤ i) && decide (i < len)) (k (.pointer (some ⟨b, off + i.toNat * ee.size, none⟩)) H)
          | _ => False)
      | .arr n e => tyK tt e fun ee => okK ee.d (match v with
          | .pointer (some ⟨b, off, _⟩) => reqK (decide (0 ≤ i) && decide (i < n)) (k (.pointer (some ⟨b, off + i.toNat * ee.size, none⟩)) H)
          | _ => False)
      | _ => False)
    | _ => False)
  | .index ty x ix => evalK t x fun v => evalK t ix fun vi => (match vi with
    | .int _ i => tyK tt ty fun te => (match te.d with
      | .string => (match v with | .string s => reqK (decide (0 ≤ i) && decide (i < s.size)) (k (.int .u8 (sAt s i.toNat)) H) | _ => False)
      | .arr n e => tyK tt e fun ee => okK ee.d (match v with
          | .agg cs => reqK (decide (0 ≤ i) && decide (i < n)) (partK ee cs.toList (i.toNat * ee.size) fun u => k u H)
          | _ => False)
      | _ => False)
    | _ => False)
  | .typeAssert x _ ty ok => evalK t x fun v => tyK tt ty fun te => okK te.d (bothK (!te.d.isIface) true (match v with
      | .iface u y => (match Nat.beq u ty with
        | true => (match ok with | true => k (.tuple #[y, .bool true]) H | false => k y H)
        | false => (match ok with | true => k (.tuple #[te.zero, .bool false]) H | false => False))
      | .nilIface => (match ok with | true => k (.tuple #[te.zero, .bool false]) H | false => False)
      | _ => False))
  | .makeMap ty r => optK t r fun o => (match o with
    | none => k (.map (some H.size)) (H.push (.map [] 0 true))
    | some (.int _ _) => mapTyK tt ty fun _ _ => k (.map (some H.size)) (H.push (.map [] 0 true))
    | _ => False)
  | .lookup ty x ix ok => evalK t x fun m => evalK t ix fun key => lookupK tt ty m key ok H k
  | .mapUpdate ty x ix y => evalK t x fun m => evalK t ix fun key => evalK t y fun v => mapUpdK tt ty m key v H fun H' => k undef H'
  | .mapEntry ty x ix => evalK t x fun m => evalK t ix fun key => mapEntK tt ty m key H k
  | .entryStore _ x s y => evalK t x fun m => evalK t s fun st => evalK t y fun v => entStK m st v H fun H' => k undef H'
  | .extract x ix => evalK t x fun v => (match v with | .tuple vs => nthK vs.toList ix fun u => k u H | _ => False)
  | .call c => (match c.callee with
    | .builtin b => evalsK t c.args.toList fun vs => (match b with
      | .len => (match vs with | [x] => nthK c.argTypes.toList 0 fun ty => lenK tt ty x H fun v => k v H | _ => False)
      | .max => (match vs with | .int kk x :: rest => maxesK x rest fun m => k (.int kk m) H | _ => False)
      | .min => (match vs with | .int kk x :: rest => minsK x rest fun m => k (.int kk m) H | _ => False)
      | .append => (match vs with | [s, x] => nthK c.argTypes.toList 0 fun ty => nthK c.argTypes.toList 1 fun xty => appendK tt ty xty s x H k | _ => False)
      | .delete => (match vs with | [m, key] => nthK c.argTypes.toList 0 fun ty => delK tt ty m key H fun H' => k (.tuple #[]) H' | _ => False)
      | .copy => (match vs with | [s, x] => nthK c.argTypes.toList 0 fun ty => copyK tt ty s x H k | _ => False)
      | _ => False)
    | _ => False)
  | _ => False

end Go.Abs
