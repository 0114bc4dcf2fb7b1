/- What is written comes back: the plain law of Encode and Decode, Pack and Unpack. No conditions beyond those stated. -/
import Derived.Test.YtbmbabgkpcnppaaV10c
set_option linter.all false
set_option maxHeartbeats 1000000
set_option maxRecDepth 20000
namespace Go.Abs
open Go Go.Proofs

structure AtL (s : ByteArray) (i : Nat) (X : List Int) : Prop where
  n : i + X.length = s.size
  g : ∀ j (h : j < X.length), sAt s (i + j) = X[j]
theorem AtL.head {s : ByteArray} {i : Nat} {c : Int} {X : List Int} (h : AtL s i (c :: X)) : sAt s i = c := h.g 0 (by simp)
theorem AtL.tail {s : ByteArray} {i : Nat} {c : Int} {X : List Int} (h : AtL s i (c :: X)) : AtL s (i + 1) X :=
  ⟨by have := h.n; simp at this; omega, fun j hj => by have := h.g (j + 1) (by simp; omega); rw [show i + 1 + j = i + (j + 1) by omega, this]; rfl⟩
theorem AtL.drop {s : ByteArray} : ∀ {L X : List Int} {i : Nat}, AtL s i (L ++ X) → AtL s (i + L.length) X
  | [], X, i, h => h
  | c :: L, X, i, h => by
    have := AtL.drop (L := L) (X := X) (AtL.tail h)
    rw [show i + (c :: L).length = i + 1 + L.length by simp; omega]
    exact this
def RunE : List Int → MS → MS → Ev → Prop
  | [], _, _, _ => False
  | [c], S, S', e => stepS c S = (S', some e, false)
  | c :: d :: L, S, S', e => ∃ S1, stepS c S = (S1, none, false) ∧ RunE (d :: L) S1 S' e
theorem dec_run {s : ByteArray} {S' : MS} {e : Ev} {X : List Int} {out : List FE} (ho : out.length ≠ 2000) : ∀ {L : List Int} {S : MS} {i : Nat}, RunE L S S' e → AtL s i (L ++ X) → decR s (L ++ X).length i S out = decR s X.length (i + L.length) S' (out ++ [(0, e)])
  | [], S, i, h, _ => h.elim
  | [c], S, i, h, ha => by
    have hc := AtL.head ha
    show decR s (X.length + 1) i S out = _
    rw [decR, hc, h]
    dsimp only
    rw [if_neg ho]
    rfl
  | c :: d :: L, S, i, h, ha => by
    obtain ⟨S1, h1, h2⟩ := h
    have hc := AtL.head ha
    have ih := dec_run ho (L := d :: L) (S := S1) h2 (AtL.tail ha)
    show decR s ((d :: L ++ X).length + 1) i S out = _
    rw [decR, hc, h1]
    dsimp only
    rw [ih]
    congr 1
    simp; omega
theorem runM_run {s : ByteArray} {S' : MS} {e : Ev} {X : List Int} (hok : ¬((e.kind = 9 ∧ S'.beg ≠ 0) ∨ (S'.run / 16 = 9 ∧ e.kind = 1))) : ∀ {L : List Int} {S : MS} {i : Nat}, RunE L S S' e → AtL s i (L ++ X) → runM s (L ++ X).length i S = .ok e (i + L.length)
  | [], S, i, h, _ => h.elim
  | [c], S, i, h, ha => by
    have hc := AtL.head ha
    show runM s (X.length + 1) i S = _
    rw [runM, hc, h]
    dsimp only
    rw [if_neg hok]
    rfl
  | c :: d :: L, S, i, h, ha => by
    obtain ⟨S1, h1, h2⟩ := h
    have hc := AtL.head ha
    have ih := runM_run hok (L := d :: L) (S := S1) h2 (AtL.tail ha)
    show runM s ((d :: L ++ X).length + 1) i S = _
    rw [runM, hc, h1]
    dsimp only
    rw [ih]
    congr 1
    simp; omega
/-! what an event's bytes do -/
theorem step_data {c x : Int} {snt : Bool} {dat : List Int} (hc : 128 ≤ c ∧ c < 240) (hx : 0 ≤ x ∧ x < 128) : stepS x ⟨c, c, snt, dat⟩ = if dat.length + 1 < need c then (⟨c, c, snt, dat ++ [x]⟩, none, false) else (⟨c, 0, snt, []⟩, some (evt c (dat ++ [x])), false) := by
  unfold stepS
  rw [if_neg (by omega), if_neg (by dsimp only; omega), if_neg (by dsimp only; omega), if_neg (by dsimp only; omega), if_neg (by dsimp only; omega)]
  unfold pushD
  dsimp only
  rw [List.length_append, List.length_singleton]
theorem step_bare {c x : Int} {snt : Bool} (hc : 128 ≤ c ∧ c < 240) (hx : 0 ≤ x ∧ x < 128) : stepS x ⟨c, 0, snt, []⟩ = stepS x ⟨c, c, false, []⟩ := by
  unfold stepS
  rw [if_neg (by omega), if_neg (by dsimp only; omega), if_neg (by dsimp only; omega), if_neg (by dsimp only; omega), if_pos rfl, if_neg (by omega), if_neg (by dsimp only; omega), if_neg (by dsimp only; omega), if_neg (by dsimp only; omega), if_neg (by dsimp only; omega)]
  unfold begS
  dsimp only
  rw [if_neg (by omega)]
theorem step_stat {c last : Int} {snt : Bool} (hc : 128 ≤ c ∧ c < 240) : stepS c ⟨last, 0, snt, []⟩ = (⟨c, c, true, []⟩, none, false) := by
  unfold stepS
  rw [if_neg (by omega), if_neg (by dsimp only; omega), if_pos (by dsimp only; omega)]
  unfold begS
  rw [if_neg (by omega)]
theorem run_dt {fr : Int} {e : Ev} {snt : Bool} (hv : VN fr e) (hk : e.kind ≤ 7) : RunE (dtL e) ⟨stB e, stB e, snt, []⟩ ⟨stB e, 0, snt, []⟩ e := by
  obtain ⟨hs1, hs2, hk1⟩ := stB_bd hv hk
  obtain ⟨_, _, c1, c2, hv⟩ := hv
  obtain ⟨kind, ch, a, b, txt⟩ := e
  dsimp only at *
  rcases hv with ⟨_, _, a1, a2, b1, b2, hp, hz, hb⟩ | h | h
  · obtain rfl := ba_empty hz
    have hst : (stB ⟨kind, ch, a, b, .empty⟩ - 112) / 16 = kind := by unfold stB; dsimp only; omega
    have hst2 : stB ⟨kind, ch, a, b, .empty⟩ % 16 = ch := by unfold stB; dsimp only; omega
    by_cases h5 : kind = 5 ∨ kind = 6
    · have e1 : dtL ⟨kind, ch, a, b, .empty⟩ = [a] := by unfold dtL; rw [if_pos h5]
      have hn : need (stB ⟨kind, ch, a, b, .empty⟩) = 1 := by unfold need; rw [hst, if_pos h5]
      rw [e1]
      show stepS a _ = _
      rw [step_data ⟨hs1, hs2⟩ ⟨a1, a2⟩, hn, if_neg (by simp)]
      have : evt (stB ⟨kind, ch, a, b, .empty⟩) ([] ++ [a]) = ⟨kind, ch, a, b, .empty⟩ := by
        unfold evt
        rw [hst, hst2, if_neg (by omega), hp h5]
        rfl
      rw [this]
    · have e1 : dtL ⟨kind, ch, a, b, .empty⟩ = [a, b] := by unfold dtL; rw [if_neg h5]
      have hn : need (stB ⟨kind, ch, a, b, .empty⟩) = 2 := by unfold need; rw [hst, if_neg h5]
      rw [e1]
      refine ⟨_, (step_data ⟨hs1, hs2⟩ ⟨a1, a2⟩).trans (by rw [hn, if_pos (by simp)]), ?_⟩
      show stepS b _ = _
      rw [step_data ⟨hs1, hs2⟩ ⟨b1, b2⟩, hn, if_neg (by simp)]
      have : evt (stB ⟨kind, ch, a, b, .empty⟩) ([] ++ [a] ++ [b]) = ⟨kind, ch, a, b, .empty⟩ := by
        unfold evt
        rw [hst, hst2]
        by_cases h2 : kind = 2
        · have := hb h2
          rw [if_neg (by simp; omega)]
          rfl
        · rw [if_neg (fun hh => h2 hh.1)]
          rfl
      rw [this]
  · omega
  · omega
theorem run_txt {n : Nat} : ∀ (L dat : List Int), dat.length + L.length ≤ 200 → (∀ x ∈ L, 0 ≤ x ∧ x < 128) → RunE (L ++ [247]) ⟨0, 240, true, dat⟩ ⟨0, 0, true, []⟩ ⟨8, 0, 0, 0, bstr (dat ++ L)⟩
  | [], dat, _, _ => by
    show stepS 247 _ = _
    rw [List.append_nil]
    rfl
  | c :: L, dat, hl, hL => by
    have hc := hL c (by simp)
    have ih := run_txt (n := n) L (dat ++ [c]) (by simp at hl ⊢; omega) (fun x hx => hL x (by simp [hx]))
    rw [List.append_assoc, List.singleton_append] at ih
    have hs : stepS c ⟨0, 240, true, dat⟩ = (⟨0, 240, true, dat ++ [c]⟩, none, false) := by
      unfold stepS
      simp only [List.length_cons] at hl
      rw [if_neg (by omega), if_pos rfl, if_neg (by omega), if_neg (by dsimp only; omega)]
    cases L with
    | nil => exact ⟨_, hs, ih⟩
    | cons d L => exact ⟨_, hs, ih⟩
theorem run_ev {fr : Int} {e : Ev} {last : Int} {snt bare : Bool} (hv : VN fr e) (hb : bare = true → e.kind ≤ 7 ∧ last = stB e) : ∃ snt', RunE (byL e bare) ⟨last, 0, snt, []⟩ ⟨nxt e last, 0, snt', []⟩ e := by
  by_cases hk : e.kind ≤ 7
  · obtain ⟨hs1, hs2, hk1⟩ := stB_bd hv hk
    have hnx : nxt e last = stB e := by unfold nxt; rw [if_pos hk]
    rw [hnx, byL_ev hv hk]
    cases bare with
    | true =>
      obtain ⟨_, rfl⟩ := hb rfl
      refine ⟨false, ?_⟩
      have h := run_dt (snt := false) hv hk
      have ha : 0 ≤ e.a ∧ e.a < 128 := by have := hv.2.2.2.2; omega
      rw [if_pos rfl, List.nil_append]
      unfold dtL at h ⊢
      split at h
      · rename_i h5
        rw [if_pos h5]
        show stepS e.a _ = _
        rw [step_bare ⟨hs1, hs2⟩ ha]
        exact h
      · rename_i h5
        rw [if_neg h5]
        obtain ⟨S1, g1, g2⟩ := h
        exact ⟨S1, (step_bare ⟨hs1, hs2⟩ ha).trans g1, g2⟩
    | false =>
      refine ⟨true, ?_⟩
      have h := run_dt (snt := true) hv hk
      rw [if_neg (by simp)]
      unfold dtL at h ⊢
      split at h
      · rename_i h5
        rw [if_pos h5]
        exact ⟨_, step_stat ⟨hs1, hs2⟩, h⟩
      · rename_i h5
        rw [if_neg h5]
        exact ⟨_, step_stat ⟨hs1, hs2⟩, h⟩
  · have hbf : bare = false := by
      cases bare with
      | true => exact absurd (hb rfl).1 hk
      | false => rfl
    subst hbf
    by_cases h8 : e.kind = 8
    · have hnx : nxt e last = 0 := by unfold nxt; rw [if_neg hk, if_pos h8]
      have hby : byL e false = 240 :: (txtL e.txt ++ [247]) := by unfold byL; rw [if_pos h8]
      have hh : e.ch = 0 ∧ e.a = 0 ∧ e.b = 0 ∧ e.txt.size ≤ 200 ∧ hiN e.txt = 0 := by have := hv.2.2.2.2; omega
      rw [hnx, hby]
      refine ⟨true, ?_⟩
      have h := run_txt (n := 0) (txtL e.txt) [] (by rw [txtL_len]; simp; omega) (fun x hx => by
        obtain ⟨j, hj, rfl⟩ := List.getElem_of_mem hx
        rw [txtL_len] at hj
        have h1 := hiN_eq.1 hh.2.2.2.2 j hj
        have h2 := sAt_bd e.txt j
        have e1 : (txtL e.txt)[j]'(by rw [txtL_len]; exact hj) = sAt e.txt j := by
          unfold txtL sAt
          have hj' : j < e.txt.data.size := hj
          simp [List.getD_eq_getElem?_getD]
          rw [Array.getElem?_eq_getElem hj']
          rfl
        rw [e1]
        exact ⟨h2.1, h1⟩)
      rw [List.nil_append, bstr_txtL] at h
      have ee : (⟨8, 0, 0, 0, e.txt⟩ : Ev) = e := by obtain ⟨kind, ch, a, b, txt⟩ := e; simp only at *; simp [hh, h8]
      rw [ee] at h
      have hs : stepS 240 ⟨last, 0, snt, []⟩ = (⟨0, 240, true, []⟩, none, false) := by
        unfold stepS
        rw [if_neg (by omega), if_neg (by dsimp only; omega), if_pos (by dsimp only; omega)]
        rfl
      cases ht : txtL e.txt with
      | nil => rw [ht] at h; exact ⟨_, hs, h⟩
      | cons d L => rw [ht] at h; exact ⟨_, hs, h⟩
    · have h9 : e.kind = 9 ∧ e.ch = 0 ∧ 0 ≤ e.a ∧ e.a ≤ 7 ∧ e.b = 0 ∧ e.txt.size = 0 := by have := hv.2.2.2.2; omega
      have hnx : nxt e last = last := by unfold nxt; rw [if_neg hk, if_neg h8]
      have hby : byL e false = [248 + e.a] := by unfold byL; rw [if_neg h8, if_pos h9.1]
      rw [hnx, hby]
      refine ⟨snt, ?_⟩
      show stepS (248 + e.a) _ = _
      unfold stepS
      rw [if_pos (by omega)]
      have ee : (⟨9, 0, 248 + e.a - 248, 0, .empty⟩ : Ev) = e := by
        obtain ⟨kind, ch, a, b, txt⟩ := e
        dsimp only at *
        obtain ⟨rfl, rfl, _, _, rfl, hz⟩ := h9
        obtain rfl := ba_empty hz
        rw [show 248 + a - 248 = a by omega]
      rw [ee]
theorem dec_enc {s : ByteArray} {rn : Bool} : ∀ (es : List FE) (last : Int) (snt : Bool) (i : Nat) (out : List FE), (∀ x ∈ es, VN x.1 x.2) → out.length + es.length ≤ 2000 → AtL s i (encN rn es last) →
    decR s (encN rn es last).length i ⟨last, 0, snt, []⟩ out = ⟨out ++ es.map (fun x => (0, x.2)), 0, 0⟩
  | [], last, snt, i, out, _, _, _ => by simp [encN, decR]
  | x :: es, last, snt, i, out, hv, hn, ha => by
    obtain ⟨snt', hr⟩ := run_ev (last := last) (snt := snt) (bare := bareB rn x.2 last) (hv x (by simp)) (fun h => by
      unfold bareB at h
      simp at h
      exact h.2)
    have ih := dec_enc es (nxt x.2 last) snt' (i + (byL x.2 (bareB rn x.2 last)).length) (out ++ [(0, x.2)]) (fun y hy => hv y (by simp [hy])) (by simp at hn ⊢; omega) (AtL.drop ha)
    show decR s (byL x.2 (bareB rn x.2 last) ++ encN rn es (nxt x.2 last)).length i _ out = _
    rw [dec_run (by simp at hn; omega) hr ha, ih]
    simp
theorem at_bstr {L : List Int} (h : ∀ x ∈ L, 0 ≤ x ∧ x < 256) : AtL (bstr L) 0 L := ⟨by rw [bstr_size]; omega, fun j hj => by rw [Nat.zero_add]; exact bstr_at hj (h _ (List.getElem_mem hj))⟩
theorem txtL_u8 (s : ByteArray) : ∀ x ∈ txtL s, 0 ≤ x ∧ x < 256 := fun x hx => by
  unfold txtL at hx
  obtain ⟨b, _, rfl⟩ := List.mem_map.1 hx
  have := b.toNat_lt
  omega
theorem byL_u8 {fr : Int} {e : Ev} (hv : VN fr e) (b : Bool) : ∀ x ∈ byL e b, 0 ≤ x ∧ x < 256 := by
  intro x hx
  by_cases hk : e.kind ≤ 7
  · obtain ⟨hs1, hs2, _⟩ := stB_bd hv hk
    rw [byL_ev hv hk] at hx
    have hab : 0 ≤ e.a ∧ e.a < 128 ∧ 0 ≤ e.b ∧ e.b < 128 := by have := hv.2.2.2.2; omega
    unfold dtL at hx
    cases b <;> by_cases h5 : e.kind = 5 ∨ e.kind = 6 <;> simp [h5] at hx <;> omega
  · by_cases h8 : e.kind = 8
    · unfold byL at hx
      rw [if_pos h8] at hx
      simp at hx
      rcases hx with rfl | hx | rfl
      · omega
      · exact txtL_u8 _ _ hx
      · omega
    · have h9 : e.kind = 9 ∧ 0 ≤ e.a ∧ e.a ≤ 7 := by have := hv.2.2.2.2; omega
      unfold byL at hx
      rw [if_neg h8, if_pos h9.1] at hx
      simp at hx
      omega
theorem enc_u8 {rn : Bool} : ∀ (es : List FE) (last : Int), (∀ x ∈ es, VN x.1 x.2) → ∀ x ∈ encN rn es last, 0 ≤ x ∧ x < 256
  | [], _, _, x, hx => absurd hx (by simp [encN])
  | y :: es, last, hv, x, hx => by
    unfold encN at hx
    rcases List.mem_append.1 hx with h | h
    · exact byL_u8 (hv y (by simp)) _ x h
    · exact enc_u8 es _ (fun z hz => hv z (by simp [hz])) x h
theorem decS_enc {rn : Bool} {es : List FE} (hv : allB es = true) (hn : es.length ≤ 2000) (hl : (encN rn es 0).length ≤ 65536) : decS (bstr (encN rn es 0)) false = ⟨es.map (fun x => (0, x.2)), 0, 0⟩ := by
  unfold decS
  rw [if_neg (by rw [bstr_size]; omega), bstr_size]
  have := dec_enc (rn := rn) es 0 false 0 [] (allB_t.1 hv) (by simpa using hn) (at_bstr (enc_u8 es 0 (allB_t.1 hv)))
  rw [this]
  simp
/-! numbers come back -/
def numX : List Int → Nat → Int → Int × Int
  | [], _, _ => (0, -1)
  | c :: L, i, n => if (i = 0 ∧ c = 128) ∨ i = 5 then (0, 0) else if c < 128 then (128 * n + c % 128, (i : Int) + 1) else numX L (i + 1) (128 * n + c % 128)
theorem numF_at {f : Nat → Int} : ∀ (X : List Int) (i : Nat) (n : Int), (∀ j (h : j < X.length), f (i + j) = X[j]) → numF f X.length i n = numX X i n
  | [], i, n, _ => rfl
  | c :: X, i, n, h => by
    have hc : f i = c := h 0 (by simp)
    have ih := fun m => numF_at (f := f) X (i + 1) m (fun j hj => by have := h (j + 1) (by simp; omega); rw [show i + 1 + j = i + (j + 1) by omega, this]; rfl)
    show numF f (X.length + 1) i n = _
    rw [numF, numX, hc, ih]
theorem varA_app : ∀ (n : Nat) (acc Y : List Int), varA n acc ++ Y = varA n (acc ++ Y) := by
  intro n
  induction n using Nat.strongRecOn with
  | _ n ih =>
    intro acc Y
    by_cases hn : n = 0
    · subst hn; rw [varA_0, varA_0]
    · rw [varA_p hn, varA_p hn, ih (n / 128) (by omega)]; rfl
theorem numX_varA : ∀ (m : Nat), dg m ≤ 5 → ∀ acc : List Int, numX (varA m acc) 0 0 = numX acc (dg m) m := by
  intro m
  induction m using Nat.strongRecOn with
  | _ m ih =>
    intro hd acc
    by_cases hm : m = 0
    · subst hm; rw [varA_0, dg_0]; rfl
    · have hdp := dg_p hm
      rw [varA_p hm, ih (m / 128) (by omega) (by omega)]
      rw [numX, if_neg ?_, if_neg (by omega), hdp]
      · congr 1
        omega
      · rintro (⟨h1, h2⟩ | h1)
        · by_cases h0 : m / 128 = 0
          · omega
          · have := dg_p h0; omega
        · omega
theorem numX_varL {n : Nat} (hn : n ≤ 1000000000) (Y : List Int) : numX (varL n ++ Y) 0 0 = ((n : Int), ((varL n).length : Int)) := by
  have hd := dg_le 4 (n / 128) (by omega)
  have hl := varL_len n
  unfold varL at hl ⊢
  rw [varA_app, numX_varA _ (by omega), List.singleton_append, numX, if_neg (by omega), if_pos (by omega), hl]
  congr 1
  · omega
theorem nAt_varL {s : ByteArray} {p n : Nat} {Y : List Int} (hn : n ≤ 1000000000) (ha : AtL s p (varL n ++ Y)) : nAt s p = ((n : Int), ((varL n).length : Int)) := by
  unfold nAt
  rw [show s.size - p = (varL n ++ Y).length by have := ha.n; omega]
  rw [numF_at (varL n ++ Y) 0 0 (fun j hj => by rw [Nat.zero_add]; exact ha.g j hj)]
  exact numX_varL hn Y
theorem unp_pack {s : ByteArray} : ∀ (es : List FE) (last : Int) (k p : Nat) (out : List FE), (∀ x ∈ es, VN x.1 x.2) → (∀ j (h : j + 1 < es.length), es[j].1 ≤ es[j + 1].1) → (∀ h : 0 < es.length, last ≤ es[0].1) → 0 ≤ last → out.length + es.length ≤ 2000 →
    AtL s p (packN es last) → (packN es last).length ≤ k → unpR s k p last out = ⟨out ++ es, 0, 0⟩
  | [], last, k, p, out, _, _, _, _, _, ha, _ => by
    have := ha.n
    have hz : (packN [] last).length = 0 := rfl
    rw [hz] at this
    cases k with
    | zero => simp [unpR]
    | succ k => rw [unpR, if_neg (by omega)]; simp
  | x :: es, last, k, p, out, hv, ho, hl, h0, hn, ha, hk => by
    have hvx := hv x (by simp)
    have hlx : last ≤ x.1 := hl (by simp)
    have hf1 := hvx.1
    have hf2 := hvx.2.1
    have hdn : (x.1 - last).toNat ≤ 1000000000 := by omega
    obtain ⟨hvl1, hvl2⟩ := varL_bd hdn
    obtain ⟨hby1, hby2⟩ := byL_len hvx false
    have hpn : packN (x :: es) last = varL (x.1 - last).toNat ++ (byL x.2 false ++ packN es x.1) := rfl
    rw [hpn] at ha hk
    rw [List.length_append, List.length_append] at hk
    have hna := nAt_varL hdn ha
    have hps : p < s.size := by have := ha.n; rw [List.length_append] at this; omega
    obtain ⟨k, rfl⟩ : ∃ k', k = k' + 1 := ⟨k - 1, by omega⟩
    rw [unp_next hps (by rw [hna]; dsimp only; omega) (by rw [hna]; dsimp only; omega), hna]
    dsimp only
    have ha2 := AtL.drop ha
    rw [Int.toNat_natCast]
    obtain ⟨snt', hr⟩ := run_ev (last := 0) (snt := false) (bare := false) hvx (fun h => by cases h)
    have hrun := runM_run (X := packN es x.1) (fun hh => by
      rcases hh with ⟨_, h2⟩ | ⟨h1, h2⟩
      · exact h2 rfl
      · dsimp only at h1
        have hk7 : x.2.kind ≤ 7 := by omega
        unfold nxt at h1
        rw [if_pos hk7] at h1
        unfold stB at h1
        have := hvx.2.2
        omega) hr ha2
    rw [show s.size - (p + (varL (x.1 - last).toNat).length) = (byL x.2 false ++ packN es x.1).length by have := ha2.n; omega, hrun]
    have hlt : ((x.1 - last).toNat : Int) = x.1 - last := by omega
    unfold unpC
    dsimp only
    rw [if_neg (by simp at hn; omega), hlt, show last + (x.1 - last) = x.1 by omega]
    have ih := unp_pack es x.1 k (p + (varL (x.1 - last).toNat).length + (byL x.2 false).length) (out ++ [x]) (fun y hy => hv y (by simp [hy])) (fun j h => by have := ho (j + 1) (by simp; omega); simpa using this) (fun h => by have := ho 0 (by simp; omega); simpa using this) (by omega) (by simp at hn ⊢; omega) (AtL.drop ha2) (by omega)
    rw [ih]
    simp
theorem varA_u8 : ∀ (n : Nat) (acc : List Int), (∀ x ∈ acc, 0 ≤ x ∧ x < 256) → ∀ x ∈ varA n acc, 0 ≤ x ∧ x < 256 := by
  intro n
  induction n using Nat.strongRecOn with
  | _ n ih =>
    intro acc h
    by_cases hn : n = 0
    · subst hn; rw [varA_0]; exact h
    · rw [varA_p hn]
      refine ih (n / 128) (by omega) _ (fun x hx => ?_)
      rcases List.mem_cons.1 hx with rfl | hx
      · omega
      · exact h x hx
theorem pack_u8 : ∀ (es : List FE) (last : Int), (∀ x ∈ es, VN x.1 x.2) → ∀ x ∈ packN es last, 0 ≤ x ∧ x < 256
  | [], _, _, x, hx => absurd hx (by simp [packN])
  | y :: es, last, hv, x, hx => by
    unfold packN at hx
    rcases List.mem_append.1 hx with h | h
    · exact varA_u8 _ _ (fun z hz => by simp at hz; omega) x h
    · rcases List.mem_append.1 h with h | h
      · exact byL_u8 (hv y (by simp)) _ x h
      · exact pack_u8 es _ (fun z hz => hv z (by simp [hz])) x h
theorem unpS_pack {es : List FE} (hv : allB es = true) (ho : ordB es = true) (hn : es.length ≤ 2000) (hl : (packN es 0).length ≤ 65536) : unpS (bstr (packN es 0)) = ⟨es, 0, 0⟩ := by
  unfold unpS
  rw [if_neg (by rw [bstr_size]; omega), bstr_size]
  have hA := allB_t.1 hv
  have := unp_pack (s := bstr (packN es 0)) es 0 (packN es 0).length 0 [] hA (ordB_t.1 ho) (fun h => (hA _ (List.getElem_mem h)).1) (by omega) (by simpa using hn) (at_bstr (pack_u8 es 0 hA)) (Nat.le_refl _)
  rw [this]
  simp
end Go.Abs
