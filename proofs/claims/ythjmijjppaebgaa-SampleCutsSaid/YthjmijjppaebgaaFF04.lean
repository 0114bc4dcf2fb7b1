/- Own matrices whose rows may be nil. -/
import Derived.Test.YthjmijjppaebgaaEE04
set_option linter.all false
set_option maxHeartbeats 1000000
set_option maxRecDepth 20000
namespace Go.Abs
open Go Go.Proofs

def RowAt (H : AHeap) (base o : Nat) (v : Value) (x : List Int) : Prop :=
  (v = .slice none 0 0 ∧ x = []) ∨ ∃ r, v = .slice (some ⟨r, 0, none⟩) x.length x.length ∧ H.get r = some (.cells (x.map (Value.int .i64)) true 1) ∧ base ≤ r ∧ r < H.size ∧ r ≠ o
structure ORs (H : AHeap) (base o : Nat) (vs : List Value) (m : List (List Int)) : Prop where
  out : H.get o = some (.cells vs true 1)
  lo : base ≤ o ∧ o < H.size
  len : vs.length = m.length
  row : ∀ k (h1 : k < vs.length) (h2 : k < m.length), RowAt H base o vs[k] m[k]
  ne : ∀ j k (h1 : j < vs.length) (h2 : k < vs.length) (r n c n' c' : Nat), j ≠ k → vs[j] = .slice (some ⟨r, 0, none⟩) n c → vs[k] ≠ .slice (some ⟨r, 0, none⟩) n' c'
theorem ORs.upd {H H' : AHeap} {base o : Nat} {vs : List Value} {m : List (List Int)} (h : ORs H base o vs m) {k : Nat} (hk : k < vs.length) {v : Value} {x : List Int} (hs : H.size ≤ H'.size) (hb : base ≤ H.size)
    (ho : H'.get o = some (.cells (vs.set k v) true 1)) (hv : (v = .slice none 0 0 ∧ x = []) ∨ ∃ r, v = .slice (some ⟨r, 0, none⟩) x.length x.length ∧ H'.get r = some (.cells (x.map (Value.int .i64)) true 1) ∧ H.size ≤ r ∧ r < H'.size)
    (hg : ∀ i, i < H.size → i ≠ o → (∀ n c, vs[k] ≠ .slice (some ⟨i, 0, none⟩) n c) → H'.get i = H.get i) : ORs H' base o (vs.set k v) (m.set k x) where
  out := ho
  lo := ⟨h.lo.1, Nat.lt_of_lt_of_le h.lo.2 hs⟩
  len := by simp [h.len]
  row j h1 h2 := by
    by_cases hj : k = j
    · subst hj
      have e1 : (vs.set k v)[k] = v := by simp
      have e2 : (m.set k x)[k] = x := by simp
      rw [e1, e2]
      rcases hv with h3 | ⟨r, h3, h4, h5, h6⟩
      · exact .inl h3
      · exact .inr ⟨r, h3, h4, by omega, h6, by have := h.lo.2; omega⟩
    · have h1' : j < vs.length := by simpa using h1
      have h2' : j < m.length := by simpa using h2
      have e1 : (vs.set k v)[j] = vs[j] := by simp [hj]
      have e2 : (m.set k x)[j] = m[j] := by simp [hj]
      rw [e1, e2]
      rcases h.row j h1' h2' with h3 | ⟨r, h3, h4, h5, h6, h7⟩
      · exact .inl h3
      · exact .inr ⟨r, h3, (hg r h6 h7 (fun n c => h.ne j k h1' hk r _ _ n c (fun e => hj e.symm) h3)).trans h4, h5, by omega, h7⟩
  ne := by
    intro i j h1 h2 r n c n' c' hij he he'
    have h1' : i < vs.length := by simpa using h1
    have h2' : j < vs.length := by simpa using h2
    have hold : ∀ t (ht : t < vs.length) (n c : Nat), vs[t] = .slice (some ⟨r, 0, none⟩) n c → r < H.size := fun t ht n c e => by
      rcases h.row t ht (by rw [← h.len]; exact ht) with h3 | ⟨r2, h3, _, _, h6, _⟩
      · rw [h3.1] at e; cases e
      · rw [h3] at e; cases e; exact h6
    have hnew : ∀ n c : Nat, v = .slice (some ⟨r, 0, none⟩) n c → H.size ≤ r := fun n c e => by
      rcases hv with h3 | ⟨r2, h3, _, h5, _⟩
      · rw [h3.1] at e; cases e
      · rw [h3] at e; cases e; exact h5
    by_cases hi : k = i
    · subst hi
      have e1 : (vs.set k v)[k] = v := by simp
      have e2 : (vs.set k v)[j] = vs[j] := by simp [hij]
      rw [e1] at he
      rw [e2] at he'
      have := hnew _ _ he
      have := hold j h2' _ _ he'
      omega
    · have e1 : (vs.set k v)[i] = vs[i] := by simp [hi]
      rw [e1] at he
      by_cases hj : k = j
      · subst hj
        have e2 : (vs.set k v)[k] = v := by simp
        rw [e2] at he'
        have := hnew _ _ he'
        have := hold i h1' _ _ he
        omega
      · have e2 : (vs.set k v)[j] = vs[j] := by simp [hj]
        rw [e2] at he'
        exact h.ne i j h1' h2' r n c n' c' hij he he'
theorem ORs.of_get {H H' : AHeap} {base o : Nat} {vs : List Value} {m : List (List Int)} (h : ORs H base o vs m) (hs : H.size ≤ H'.size) (hg : ∀ i, base ≤ i → i < H.size → H'.get i = H.get i) : ORs H' base o vs m where
  out := (hg o h.lo.1 h.lo.2).trans h.out
  lo := ⟨h.lo.1, Nat.lt_of_lt_of_le h.lo.2 hs⟩
  len := h.len
  row k h1 h2 := by
    rcases h.row k h1 h2 with h3 | ⟨r, h3, h4, h5, h6, h7⟩
    · exact .inl h3
    · exact .inr ⟨r, h3, (hg r h5 h6).trans h4, h5, Nat.lt_of_lt_of_le h6 hs, h7⟩
  ne := h.ne
theorem ORs.fz {H : AHeap} {base b o : Nat} {vs : List Value} {m : List (List Int)} (h : ORs H base o vs m) (hb : b ≤ base) (hn : m.length ≤ maxN) (hr : ∀ r ∈ m, r.length ≤ maxN ∧ ∀ x ∈ r, inR x) : Mat (H.fz b) (some ⟨o, 0, none⟩) m := by
  have hl := h.len
  refine .mk (FB.fz h.lo.2 (Nat.le_trans hb h.lo.1) h.out) hn (by omega) fun k hk => ?_
  have hk' : k < vs.length := by omega
  obtain ⟨h1, h2⟩ := hr m[k] (List.getElem_mem hk)
  refine ⟨_, rfl, by omega, ?_⟩
  rw [Nat.zero_add, Nat.mul_one, List.drop_eq_getElem_cons hk', List.take_succ_cons, List.take_zero]
  rcases h.row k hk' hk with ⟨e1, e2⟩ | ⟨r, e1, g, h5, h6, h7⟩
  · rw [e1, e2]
    exact ⟨none, 0, rfl, .nil, ⟨fun _ => rfl, by simp⟩⟩
  · rw [e1]
    exact ⟨_, _, rfl, Row.fz h6 (by omega) g h1 h2, CapOk.of (Nat.le_refl _)⟩
theorem loadK_own {H : AHeap} {o k : Nat} {vs : List Value} {v : Value} {K : Value → Prop} (h : H.get o = some (.cells vs true 1)) (hk : k < vs.length) (hv : vs[k] = v) (hK : K v) : loadK H o (0 + (k : Int).toNat * 1) K := by
  refine loadK_get h ?_ hK
  subst hv
  simp [hk]
theorem loadK_own0 {H : AHeap} {o : Nat} {vs : List Value} {v : Value} {K : Value → Prop} (h : H.get o = some (.cells vs true 1)) (hk : 0 < vs.length) (hv : vs[0] = v) (hK : K v) : loadK H o (0 + (0 : Int).toNat * 1) K := loadK_own (k := 0) h hk hv hK
theorem storeK_own {H : AHeap} {o k : Nat} {vs : List Value} {v : Value} {K : AHeap → Prop} (h : H.get o = some (.cells vs true 1)) (hk : k < vs.length) (hK : K (H.set o (.cells (vs.set k v) true 1))) : storeK H o (0 + (k : Int).toNat * 1) v K := by
  refine storeK_at h (by simpa using hk) ?_ hK
  simp
theorem ORs.lower {H : AHeap} {b b' o : Nat} {vs : List Value} {m : List (List Int)} (h : ORs H b o vs m) (hb : b' ≤ b) : ORs H b' o vs m where
  out := h.out
  lo := ⟨Nat.le_trans hb h.lo.1, h.lo.2⟩
  len := h.len
  row k h1 h2 := by
    rcases h.row k h1 h2 with h3 | ⟨r, h3, h4, h5, h6, h7⟩
    · exact .inl h3
    · exact .inr ⟨r, h3, h4, Nat.le_trans hb h5, h6, h7⟩
  ne := h.ne
end Go.Abs
