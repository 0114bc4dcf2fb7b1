/- Contract of Plain, the program's. -/
import Derived.Test.YthadnbgkmfacmaaF03
set_option linter.all false
set_option maxHeartbeats 2000000
set_option maxRecDepth 20000
namespace Go.Abs
open Go Go.Proofs

/-! maps as sets of numbers -/
structure ISet (es : List MapEntry) (S : Nat → Prop) : Prop where
  all : ∀ e ∈ es, e.val = .bool true ∧ ∃ a : Nat, e.key = iv a ∧ S a
  ex : ∀ a, S a → ∃ e ∈ es, e.key = iv a
theorem ISet.nil : ISet [] (fun _ => False) := ⟨fun e he => absurd he (by simp), fun _ h => h.elim⟩
theorem find_key {k : Nat} : ∀ (es : List MapEntry) (n : Nat), (∀ e ∈ es, e.val = .bool true ∧ ∃ a : Nat, e.key = iv a) →
    ((∃ e ∈ es, e.key = iv k) → ∃ i, Instr.findNow (.int .i64) (iv k) es n = some (some (i, .bool true))) ∧ ((∀ e ∈ es, e.key ≠ iv k) → Instr.findNow (.int .i64) (iv k) es n = some none)
  | [], n, _ => ⟨fun ⟨e, he, _⟩ => absurd he (by simp), fun _ => rfl⟩
  | e :: es, n, h => by
    obtain ⟨hv, a, ha⟩ := h e (by simp)
    obtain ⟨ih1, ih2⟩ := find_key (k := k) es (n + 1) (fun e he => h e (by simp [he]))
    have hs : Instr.sameNow (.int .i64) (iv k) e.key = some ((k : Int) == (a : Int)) := by rw [ha]; simp [Instr.sameNow]
    by_cases hka : k = a
    · have hb : ((k : Int) == (a : Int)) = true := by subst hka; simp
      rw [hb] at hs
      refine ⟨fun _ => ⟨n, by simp only [Instr.findNow, hs, hv]⟩, fun hne => absurd (by rw [ha, hka]) (hne e (by simp))⟩
    · have hb : ((k : Int) == (a : Int)) = false := by simpa using fun e : (k : Int) = a => hka (by omega)
      rw [hb] at hs
      refine ⟨fun ⟨e', he', hk'⟩ => ?_, fun hne => ?_⟩
      · rcases List.mem_cons.1 he' with rfl | he'
        · rw [ha] at hk'
          have : (a : Int) = k := by injection hk'
          omega
        · obtain ⟨i, hi⟩ := ih1 ⟨e', he', hk'⟩
          exact ⟨i, by simp only [Instr.findNow, hs]; exact hi⟩
      · simp only [Instr.findNow, hs]
        exact ih2 fun e' he' => hne e' (by simp [he'])
theorem ISet.in {es : List MapEntry} {S : Nat → Prop} (h : ISet es S) {k : Nat} (hk : S k) : ∃ i, Instr.findNow (.int .i64) (iv k) es 0 = some (some (i, .bool true)) :=
  (find_key es 0 (fun e he => ⟨(h.all e he).1, let ⟨a, h1, _⟩ := (h.all e he).2; ⟨a, h1⟩⟩)).1 (h.ex k hk)
theorem ISet.out {es : List MapEntry} {S : Nat → Prop} (h : ISet es S) {k : Nat} (hk : ¬ S k) : Instr.findNow (.int .i64) (iv k) es 0 = some none :=
  (find_key es 0 (fun e he => ⟨(h.all e he).1, let ⟨a, h1, _⟩ := (h.all e he).2; ⟨a, h1⟩⟩)).2 fun e he hek => by
    obtain ⟨a, h1, h2⟩ := (h.all e he).2
    rw [h1] at hek
    have : (a : Int) = k := by injection hek
    have : a = k := by omega
    exact hk (this ▸ h2)
theorem ISet.add {es : List MapEntry} {S : Nat → Prop} (h : ISet es S) (k c : Nat) : ISet (es ++ [⟨iv k, .bool true, c⟩]) (fun a => S a ∨ a = k) where
  all e he := by
    rcases List.mem_append.1 he with he | he
    · obtain ⟨h1, a, h2, h3⟩ := h.all e he
      exact ⟨h1, a, h2, .inl h3⟩
    · have : e = ⟨iv k, .bool true, c⟩ := by simpa using he
      subst this
      exact ⟨rfl, k, rfl, .inr rfl⟩
  ex a ha := by
    rcases ha with ha | rfl
    · obtain ⟨e, h1, h2⟩ := h.ex a ha
      exact ⟨e, by simp [h1], h2⟩
    · exact ⟨⟨iv a, .bool true, c⟩, by simp, rfl⟩
theorem ISet.congr {es : List MapEntry} {S T : Nat → Prop} (h : ISet es S) (e : ∀ a, S a ↔ T a) : ISet es T :=
  ⟨fun x hx => let ⟨h1, a, h2, h3⟩ := h.all x hx; ⟨h1, a, h2, (e a).1 h3⟩, fun a ha => h.ex a ((e a).2 ha)⟩

/-! what has been seen -/
def bf (a c i k : Nat) : Prop := a < i ∨ (a = i ∧ c < k)
def rowsS (m : List (List Int)) (i k : Nat) (a : Nat) : Prop := ∃ c, bf a c i k ∧ at2 m a c ≠ 0
def colsS (m : List (List Int)) (i k : Nat) (c : Nat) : Prop := ∃ a, bf a c i k ∧ at2 m a c ≠ 0
def seen (m : List (List Int)) (i k : Nat) : Prop := ∀ a c, bf a c i k → at2 m a c ≠ 0 → at2 m a c = 65536 ∧ (∀ c', c' ≠ c → bf a c' i k → at2 m a c' = 0) ∧ (∀ a', a' ≠ a → bf a' c i k → at2 m a' c = 0)
theorem bf_succ {a c i k : Nat} : bf a c i (k + 1) ↔ bf a c i k ∨ (a = i ∧ c = k) := by unfold bf; omega
theorem rows_zero {m : List (List Int)} {i k : Nat} (h : at2 m i k = 0) (a : Nat) : rowsS m i k a ↔ rowsS m i (k + 1) a := by
  unfold rowsS
  refine ⟨fun ⟨c, h1, h2⟩ => ⟨c, bf_succ.2 (.inl h1), h2⟩, fun ⟨c, h1, h2⟩ => ?_⟩
  rcases bf_succ.1 h1 with h1 | ⟨rfl, rfl⟩
  · exact ⟨c, h1, h2⟩
  · exact absurd h h2
theorem cols_zero {m : List (List Int)} {i k : Nat} (h : at2 m i k = 0) (c : Nat) : colsS m i k c ↔ colsS m i (k + 1) c := by
  unfold colsS
  refine ⟨fun ⟨a, h1, h2⟩ => ⟨a, bf_succ.2 (.inl h1), h2⟩, fun ⟨a, h1, h2⟩ => ?_⟩
  rcases bf_succ.1 h1 with h1 | ⟨rfl, rfl⟩
  · exact ⟨a, h1, h2⟩
  · exact absurd h h2
theorem seen_zero {m : List (List Int)} {i k : Nat} (h : at2 m i k = 0) (hs : seen m i k) : seen m i (k + 1) := by
  intro a c h1 h2
  rcases bf_succ.1 h1 with h1 | ⟨rfl, rfl⟩
  · obtain ⟨q1, q2, q3⟩ := hs a c h1 h2
    refine ⟨q1, fun c' hc' hb => ?_, fun a' ha' hb => ?_⟩
    · rcases bf_succ.1 hb with hb | ⟨rfl, rfl⟩
      · exact q2 c' hc' hb
      · exact h
    · rcases bf_succ.1 hb with hb | ⟨rfl, rfl⟩
      · exact q3 a' ha' hb
      · exact h
  · exact absurd h h2
theorem rows_add {m : List (List Int)} {i k : Nat} (h : at2 m i k ≠ 0) (a : Nat) : (rowsS m i k a ∨ a = i) ↔ rowsS m i (k + 1) a := by
  unfold rowsS
  refine ⟨fun hh => ?_, fun ⟨c, h1, h2⟩ => ?_⟩
  · rcases hh with ⟨c, h1, h2⟩ | rfl
    · exact ⟨c, bf_succ.2 (.inl h1), h2⟩
    · exact ⟨k, bf_succ.2 (.inr ⟨rfl, rfl⟩), h⟩
  · rcases bf_succ.1 h1 with h1 | ⟨rfl, rfl⟩
    · exact .inl ⟨c, h1, h2⟩
    · exact .inr rfl
theorem cols_add {m : List (List Int)} {i k : Nat} (h : at2 m i k ≠ 0) (c : Nat) : (colsS m i k c ∨ c = k) ↔ colsS m i (k + 1) c := by
  unfold colsS
  refine ⟨fun hh => ?_, fun ⟨a, h1, h2⟩ => ?_⟩
  · rcases hh with ⟨a, h1, h2⟩ | rfl
    · exact ⟨a, bf_succ.2 (.inl h1), h2⟩
    · exact ⟨i, bf_succ.2 (.inr ⟨rfl, rfl⟩), h⟩
  · rcases bf_succ.1 h1 with h1 | ⟨rfl, rfl⟩
    · exact .inl ⟨a, h1, h2⟩
    · exact .inr rfl
theorem seen_add {m : List (List Int)} {i k : Nat} (h1 : at2 m i k = 65536) (hr : ¬ rowsS m i k i) (hc : ¬ colsS m i k k) (hs : seen m i k) : seen m i (k + 1) := by
  have zr : ∀ c, bf i c i k → at2 m i c = 0 := fun c hb => by
    by_cases e : at2 m i c = 0
    · exact e
    · exact absurd ⟨c, hb, e⟩ hr
  have zc : ∀ a, bf a k i k → at2 m a k = 0 := fun a hb => by
    by_cases e : at2 m a k = 0
    · exact e
    · exact absurd ⟨a, hb, e⟩ hc
  intro a c hb hne
  rcases bf_succ.1 hb with hb | ⟨rfl, rfl⟩
  · obtain ⟨q1, q2, q3⟩ := hs a c hb hne
    refine ⟨q1, fun c' hc' hb' => ?_, fun a' ha' hb' => ?_⟩
    · rcases bf_succ.1 hb' with hb' | ⟨rfl, rfl⟩
      · exact q2 c' hc' hb'
      · exact absurd (zr c hb) hne
    · rcases bf_succ.1 hb' with hb' | ⟨rfl, rfl⟩
      · exact q3 a' ha' hb'
      · exact absurd (zc a hb) hne
  · refine ⟨h1, fun c' hc' hb' => ?_, fun a' ha' hb' => ?_⟩
    · rcases bf_succ.1 hb' with hb' | ⟨_, rfl⟩
      · exact zr c' hb'
      · exact absurd rfl hc'
    · rcases bf_succ.1 hb' with hb' | ⟨rfl, _⟩
      · exact zc a' hb'
      · exact absurd rfl ha'
theorem bf_next {m : List (List Int)} {i : Nat} (hi : i < m.length) {a c : Nat} (hne : at2 m a c ≠ 0) : bf a c i m[i].length ↔ bf a c (i + 1) 0 := by
  unfold bf
  constructor
  · intro h; omega
  · intro h
    by_cases e : a = i
    · subst e
      obtain ⟨_, hc⟩ := at2_lt' hne
      omega
    · omega
theorem rows_next {m : List (List Int)} {i : Nat} (hi : i < m.length) (a : Nat) : rowsS m i m[i].length a ↔ rowsS m (i + 1) 0 a :=
  ⟨fun ⟨c, h1, h2⟩ => ⟨c, (bf_next hi h2).1 h1, h2⟩, fun ⟨c, h1, h2⟩ => ⟨c, (bf_next hi h2).2 h1, h2⟩⟩
theorem cols_next {m : List (List Int)} {i : Nat} (hi : i < m.length) (c : Nat) : colsS m i m[i].length c ↔ colsS m (i + 1) 0 c :=
  ⟨fun ⟨a, h1, h2⟩ => ⟨a, (bf_next hi h2).1 h1, h2⟩, fun ⟨a, h1, h2⟩ => ⟨a, (bf_next hi h2).2 h1, h2⟩⟩
theorem seen_next {m : List (List Int)} {i : Nat} (hi : i < m.length) (hs : seen m i m[i].length) : seen m (i + 1) 0 := by
  intro a c hb hne
  obtain ⟨q1, q2, q3⟩ := hs a c ((bf_next hi hne).2 hb) hne
  refine ⟨q1, fun c' hc' hb' => ?_, fun a' ha' hb' => ?_⟩
  · by_cases e : at2 m a c' = 0
    · exact e
    · exact q2 c' hc' ((bf_next hi e).2 hb')
  · by_cases e : at2 m a' c = 0
    · exact e
    · exact q3 a' ha' ((bf_next hi e).2 hb')
theorem seen_all {m : List (List Int)} (hs : seen m m.length 0) : Plain m := by
  intro i k hne
  obtain ⟨hi, _⟩ := at2_lt' hne
  obtain ⟨q1, q2, q3⟩ := hs i k (.inl hi) hne
  refine ⟨fun n hn => q2 n hn (.inl hi), fun n hn => ?_, q1⟩
  by_cases e : n < m.length
  · exact q3 n hn (.inl e)
  · exact at2_row e

theorem plain1_c {p : Option Addr} {c1 : Nat} {m : List (List Int)} (hv : matB m = true) {H : AHeap} {K : CK} (hm : Mat H p m)
    (h1 : Plain m → ∀ H', H.le H' → K (.returned (.tuple #[.bool true, iv 0])) H') (h2 : ¬ Plain m → ∀ H', H.le H' → K (.returned (.tuple #[.bool false, iv 0])) H') : callS P (fnV 28) [.slice p m.length c1] H K := by
  have hll := hm.len
  refine callS_walk tt_ok Try.func28 rfl (by kernel_rfl) ?_
  conv => whnf
  repeat' ((conv => whnf); first | refine validM_v mtA hv ?_ | refine of_c (hm.kp kpA) (fun H1 hle1 => ?_); (have hs1 : H.size + 6 ≤ H1.size := hle1.size); (have hleH : H.le H1 := AHeap.le.trans leA hle1) | (apply weightsF_c) | ((first | (apply vB; (case h => assumption)) | (apply vA; (case h => assumption)) | (apply vC; (case h => assumption))); (case hk => exact kpA); (case he => omega)) | ((first | (apply vI; (case h => assumption)) | (apply vG; (case h => assumption)) | (apply vK; (case h => assumption))); (case hk => exact kpA); (case he => omega); (case hp => omega); (case' g => intro hr_ hc_)) | ((first | (apply vJ; (case h => assumption)) | (apply vH; (case h => assumption)) | (apply vL; (case h => assumption))); (case hk => exact kpA); (case he => omega); (case' g => intro hr_ hc_)) | (apply drawS_auto mixed tt_ok; (· kernel_rfl)) | apply zZ | apply yA | apply yB | ((first | apply zA | apply zC | apply zE | apply zG); (· assumption)) | ((first | apply zB | apply zD | apply zF | apply zH); (· assumption)) | apply zM | apply zN | apply zO | apply zP | apply zQ | apply zR | apply zS | apply zT | apply zU | (apply zV; (· omega)) | (apply zW; (· omega)) | (apply zX; (· (first | omega | (dsimp only; omega)))) | (apply zY; (try (apply zY; apply zX; (· omega))); apply zX; (· omega); apply zX; (· (first | omega | (dsimp only; omega)))) | ((first | apply yJ | apply yK | apply yL | apply yM | apply yN | apply yO); (· exact hgA); (· exact hsA)) | (apply yNP; (· exact hgA); (· exact hsA)) | ((first | apply zA | apply zC | apply zE | apply zG); (· omega)) | ((first | apply zB | apply zD | apply zF | apply zH); (· omega)) | ((first | apply zI | apply zK); (· assumption)) | ((first | apply zJ | apply zL); (· assumption)) | ((first | apply xA | apply xC | apply xE | apply xG); (· first | assumption | rfl)) | ((first | apply xB | apply xD | apply xF | apply xH); (· first | assumption | kernel_rfl)) | fail)
  conv => whnf
  have gf1 : H1.get (H.size + 2) = some (.map [] 0 true) := (hle1.get _ hoA).trans hgA
  have gf2 : H1.get (H.size + 3) = some (.map [] 0 true) := (hle1.get _ hoA).trans hgA
  have ga : H1.get H.size = some (.cells [.bool false] true 0) := (hle1.get _ hoA).trans hgA
  have gb : H1.get (H.size + 1) = some (.cells [iv 0] true 0) := (hle1.get _ hoA).trans hgA
  have gc : H1.get (H.size + 4) = some (.cells [.map (some (H.size + 2))] true 0) := (hle1.get _ hoA).trans hgA
  have gd : H1.get (H.size + 5) = some (.cells [.map (some (H.size + 3))] true 0) := (hle1.get _ hoA).trans hgA
  refine weights_c (H0 := H) (sb := H1.size) (v1 := iv m.length) (v2 := iv (framesB m)) (c := c1)
    (I := fun Hb i k HH => Hb.size ≤ HH.size ∧ (∀ j, j < Hb.size → j ≠ H.size + 2 → j ≠ H.size + 3 → HH.get j = Hb.get j) ∧ (∃ es1 n1 es2 n2, HH.get (H.size + 2) = some (.map es1 n1 true) ∧ HH.get (H.size + 3) = some (.map es2 n2 true) ∧ ISet es1 (rowsS m i k) ∧ ISet es2 (colsS m i k)) ∧ seen m i k)
    (X := fun Hb HH => ¬ Plain m ∧ Hb.size ≤ HH.size ∧ (∀ j, j < Hb.size → j ≠ H.size + 2 → j ≠ H.size + 3 → j ≠ H1.size + 2 → HH.get j = Hb.get j) ∧ ∃ r, Hb.get (H1.size + 2) = some (.loop r) ∧ HH.get (H1.size + 2) = some (.loop ⟨.done, some .ret, r.fn, r.tmps, r.params, r.assign, r.body, r.defers⟩)) hm ?_ ?_ ?_ ?_ ?_ ?_
  · rintro i k HH ⟨hs, hsame, _, _⟩
    have hs' : H1.size + 3 ≤ HH.size := hs
    exact ⟨AHeap.le.kp ⟨by omega, fun j hj => (hsame j hoA (by omega) (by omega)).trans (AHeap.le.get leA j hj)⟩, (hsame H1.size hoA (by omega) (by omega)).trans hgA⟩
  · rintro i hi HH ⟨hs, hsame, ⟨es1, n1, es2, n2, q1, q2, q3, q4⟩, hsn⟩
    exact ⟨hs, hsame, ⟨es1, n1, es2, n2, q1, q2, q3.congr (rows_next hi), q4.congr (cols_next hi)⟩, seen_next hi hsn⟩
  · refine ⟨Nat.le_refl _, fun _ _ _ _ => rfl, ⟨[], 0, [], 0, hgA, hgA, ISet.nil.congr fun a => ⟨fun h => h.elim, fun ⟨c, h, _⟩ => ?_⟩, ISet.nil.congr fun a => ⟨fun h => h.elim, fun ⟨c, h, _⟩ => ?_⟩⟩, fun a c h => ?_⟩
    · unfold bf at h; omega
    · unfold bf at h; omega
    · unfold bf at h; omega
  · rintro i k HH K1 hi hk ⟨hs, hsame, ⟨es1, n1, es2, n2, q1, q2, q3, q4⟩, hsn⟩ hT hF
    have hs' : H1.size + 3 ≤ HH.size := hs
    have hat : at2 m i k = m[i][k] := at2_eq hi hk
    have gl := (hsame (H1.size + 2) hoA (by omega) (by omega)).trans hgA
    have ga2 : HH.get H.size = some (.cells [.bool false] true 0) := (hsame H.size hoA (by omega) (by omega)).trans hgA
    have gb2 : HH.get (H.size + 1) = some (.cells [iv 0] true 0) := (hsame (H.size + 1) hoA (by omega) (by omega)).trans hgA
    have gc2 : HH.get (H.size + 4) = some (.cells [.map (some (H.size + 2))] true 0) := (hsame (H.size + 4) hoA (by omega) (by omega)).trans hgA
    have gd2 : HH.get (H.size + 5) = some (.cells [.map (some (H.size + 3))] true 0) := (hsame (H.size + 5) hoA (by omega) (by omega)).trans hgA
    refine callS_round tt_ok ?_
    by_cases hz : m[i][k] = 0
    · have hz0 : at2 m i k = 0 := by rw [hat]; exact hz
      repeat' ((conv => whnf); first | ((first | (apply vB; (case h => assumption)) | (apply vA; (case h => assumption)) | (apply vC; (case h => assumption))); (case hk => exact kpA); (case he => omega)) | ((first | (apply vI; (case h => assumption)) | (apply vG; (case h => assumption)) | (apply vK; (case h => assumption))); (case hk => exact kpA); (case he => omega); (case hp => omega); (case' g => intro hr_ hc_)) | ((first | (apply vJ; (case h => assumption)) | (apply vH; (case h => assumption)) | (apply vL; (case h => assumption))); (case hk => exact kpA); (case he => omega); (case' g => intro hr_ hc_)) | (apply drawS_auto mixed tt_ok; (· kernel_rfl)) | apply zZ | apply yA | apply yB | ((first | apply zA | apply zC | apply zE | apply zG); (· assumption)) | ((first | apply zB | apply zD | apply zF | apply zH); (· assumption)) | apply zM | apply zN | apply zO | apply zP | apply zQ | apply zR | apply zS | apply zT | apply zU | (apply zV; (· omega)) | (apply zW; (· omega)) | (apply zX; (· (first | omega | (dsimp only; omega)))) | (apply zY; (try (apply zY; apply zX; (· omega))); apply zX; (· omega); apply zX; (· (first | omega | (dsimp only; omega)))) | ((first | apply yJ | apply yK | apply yL | apply yM | apply yN | apply yO); (· exact hgA); (· exact hsA)) | (apply yNP; (· exact hgA); (· exact hsA)) | ((first | apply zA | apply zC | apply zE | apply zG); (· omega)) | ((first | apply zB | apply zD | apply zF | apply zH); (· omega)) | ((first | apply zI | apply zK); (· assumption)) | ((first | apply zJ | apply zL); (· assumption)) | ((first | apply xA | apply xC | apply xE | apply xG); (· first | assumption | rfl)) | ((first | apply xB | apply xD | apply xF | apply xH); (· first | assumption | kernel_rfl)) | fail)
      conv => whnf
      refine hT _ ⟨hoA, fun j hj h3 h4 => ?_, ⟨es1, n1, es2, n2, hgA, hgA, q3.congr (rows_zero hz0), q4.congr (cols_zero hz0)⟩, seen_zero hz0 hsn⟩
      have hj2 : j < H1.size + 3 := hj
      by_cases hl : j = H1.size + 2
      · subst hl
        exact Eq.trans hgA (Eq.symm hgA)
      · (repeat (first | exact hsame _ hj h3 h4 | (refine (yR _ _ ?_).trans ?_; (· exact hoA)) | (refine (yS _ _ ?_).trans ?_; (· exact hoA)) | (refine (yT _ ?_).trans ?_; (· exact hoA))))
    · have hnz : at2 m i k ≠ 0 := by rw [hat]; exact hz
      by_cases ho : m[i][k] = 65536
      · by_cases hr : rowsS m i k i
        · obtain ⟨x1, hf1⟩ := q3.in hr
          have hnp : ¬ Plain m := fun hp => by
            obtain ⟨c, hb, hne⟩ := hr
            have : c ≠ k := by unfold bf at hb; omega
            exact hne ((hp i k hnz).1 c this)
          repeat' ((conv => whnf); first | refine findK_of rfl hf1 ?_ | ((first | (apply vB; (case h => assumption)) | (apply vA; (case h => assumption)) | (apply vC; (case h => assumption))); (case hk => exact kpA); (case he => omega)) | ((first | (apply vI; (case h => assumption)) | (apply vG; (case h => assumption)) | (apply vK; (case h => assumption))); (case hk => exact kpA); (case he => omega); (case hp => omega); (case' g => intro hr_ hc_)) | ((first | (apply vJ; (case h => assumption)) | (apply vH; (case h => assumption)) | (apply vL; (case h => assumption))); (case hk => exact kpA); (case he => omega); (case' g => intro hr_ hc_)) | (apply drawS_auto mixed tt_ok; (· kernel_rfl)) | apply zZ | apply yA | apply yB | ((first | apply zA | apply zC | apply zE | apply zG); (· assumption)) | ((first | apply zB | apply zD | apply zF | apply zH); (· assumption)) | apply zM | apply zN | apply zO | apply zP | apply zQ | apply zR | apply zS | apply zT | apply zU | (apply zV; (· omega)) | (apply zW; (· omega)) | (apply zX; (· (first | omega | (dsimp only; omega)))) | (apply zY; (try (apply zY; apply zX; (· omega))); apply zX; (· omega); apply zX; (· (first | omega | (dsimp only; omega)))) | ((first | apply yJ | apply yK | apply yL | apply yM | apply yN | apply yO); (· exact hgA); (· exact hsA)) | (apply yNP; (· exact hgA); (· exact hsA)) | ((first | apply zA | apply zC | apply zE | apply zG); (· omega)) | ((first | apply zB | apply zD | apply zF | apply zH); (· omega)) | ((first | apply zI | apply zK); (· assumption)) | ((first | apply zJ | apply zL); (· assumption)) | ((first | apply xA | apply xC | apply xE | apply xG); (· first | assumption | rfl)) | ((first | apply xB | apply xD | apply xF | apply xH); (· first | assumption | kernel_rfl)) | fail)
          conv => whnf
          refine hF _ ⟨hnp, hoA, fun j hj h3 h4 h5 => ?_, _, hgA, hgA⟩
          have hj2 : j < H1.size + 3 := hj
          by_cases hl : j = H.size
          · subst hl
            exact Eq.trans (b := some (.cells [.bool false] true 0)) hgA (Eq.symm hgA)
          · by_cases hl2 : j = H.size + 1
            · subst hl2
              exact Eq.trans (b := some (.cells [iv 0] true 0)) hgA (Eq.symm hgA)
            · (repeat (first | exact hsame _ hj h3 h4 | (refine (yR _ _ ?_).trans ?_; (· exact hoA)) | (refine (yS _ _ ?_).trans ?_; (· exact hoA)) | (refine (yT _ ?_).trans ?_; (· exact hoA))))
        · have hf1 := q3.out hr
          by_cases hc : colsS m i k k
          · obtain ⟨x2, hf2⟩ := q4.in hc
            have hnp : ¬ Plain m := fun hp => by
              obtain ⟨a, hb, hne⟩ := hc
              have : a ≠ i := by unfold bf at hb; omega
              exact hne ((hp i k hnz).2.1 a this)
            repeat' ((conv => whnf); first | refine findK_of rfl hf1 ?_ | refine findK_of rfl hf2 ?_ | ((first | (apply vB; (case h => assumption)) | (apply vA; (case h => assumption)) | (apply vC; (case h => assumption))); (case hk => exact kpA); (case he => omega)) | ((first | (apply vI; (case h => assumption)) | (apply vG; (case h => assumption)) | (apply vK; (case h => assumption))); (case hk => exact kpA); (case he => omega); (case hp => omega); (case' g => intro hr_ hc_)) | ((first | (apply vJ; (case h => assumption)) | (apply vH; (case h => assumption)) | (apply vL; (case h => assumption))); (case hk => exact kpA); (case he => omega); (case' g => intro hr_ hc_)) | (apply drawS_auto mixed tt_ok; (· kernel_rfl)) | apply zZ | apply yA | apply yB | ((first | apply zA | apply zC | apply zE | apply zG); (· assumption)) | ((first | apply zB | apply zD | apply zF | apply zH); (· assumption)) | apply zM | apply zN | apply zO | apply zP | apply zQ | apply zR | apply zS | apply zT | apply zU | (apply zV; (· omega)) | (apply zW; (· omega)) | (apply zX; (· (first | omega | (dsimp only; omega)))) | (apply zY; (try (apply zY; apply zX; (· omega))); apply zX; (· omega); apply zX; (· (first | omega | (dsimp only; omega)))) | ((first | apply yJ | apply yK | apply yL | apply yM | apply yN | apply yO); (· exact hgA); (· exact hsA)) | (apply yNP; (· exact hgA); (· exact hsA)) | ((first | apply zA | apply zC | apply zE | apply zG); (· omega)) | ((first | apply zB | apply zD | apply zF | apply zH); (· omega)) | ((first | apply zI | apply zK); (· assumption)) | ((first | apply zJ | apply zL); (· assumption)) | ((first | apply xA | apply xC | apply xE | apply xG); (· first | assumption | rfl)) | ((first | apply xB | apply xD | apply xF | apply xH); (· first | assumption | kernel_rfl)) | fail)
            conv => whnf
            refine hF _ ⟨hnp, hoA, fun j hj h3 h4 h5 => ?_, _, hgA, hgA⟩
            have hj2 : j < H1.size + 3 := hj
            by_cases hl : j = H.size
            · subst hl
              exact Eq.trans (b := some (.cells [.bool false] true 0)) hgA (Eq.symm hgA)
            · by_cases hl2 : j = H.size + 1
              · subst hl2
                exact Eq.trans (b := some (.cells [iv 0] true 0)) hgA (Eq.symm hgA)
              · (repeat (first | exact hsame _ hj h3 h4 | (refine (yR _ _ ?_).trans ?_; (· exact hoA)) | (refine (yS _ _ ?_).trans ?_; (· exact hoA)) | (refine (yT _ ?_).trans ?_; (· exact hoA))))
          · have hf2 := q4.out hc
            repeat' ((conv => whnf); first | refine findK_of rfl hf1 ?_ | refine findK_of rfl hf2 ?_ | ((first | (apply vB; (case h => assumption)) | (apply vA; (case h => assumption)) | (apply vC; (case h => assumption))); (case hk => exact kpA); (case he => omega)) | ((first | (apply vI; (case h => assumption)) | (apply vG; (case h => assumption)) | (apply vK; (case h => assumption))); (case hk => exact kpA); (case he => omega); (case hp => omega); (case' g => intro hr_ hc_)) | ((first | (apply vJ; (case h => assumption)) | (apply vH; (case h => assumption)) | (apply vL; (case h => assumption))); (case hk => exact kpA); (case he => omega); (case' g => intro hr_ hc_)) | (apply drawS_auto mixed tt_ok; (· kernel_rfl)) | apply zZ | apply yA | apply yB | ((first | apply zA | apply zC | apply zE | apply zG); (· assumption)) | ((first | apply zB | apply zD | apply zF | apply zH); (· assumption)) | apply zM | apply zN | apply zO | apply zP | apply zQ | apply zR | apply zS | apply zT | apply zU | (apply zV; (· omega)) | (apply zW; (· omega)) | (apply zX; (· (first | omega | (dsimp only; omega)))) | (apply zY; (try (apply zY; apply zX; (· omega))); apply zX; (· omega); apply zX; (· (first | omega | (dsimp only; omega)))) | ((first | apply yJ | apply yK | apply yL | apply yM | apply yN | apply yO); (· exact hgA); (· exact hsA)) | (apply yNP; (· exact hgA); (· exact hsA)) | ((first | apply zA | apply zC | apply zE | apply zG); (· omega)) | ((first | apply zB | apply zD | apply zF | apply zH); (· omega)) | ((first | apply zI | apply zK); (· assumption)) | ((first | apply zJ | apply zL); (· assumption)) | ((first | apply xA | apply xC | apply xE | apply xG); (· first | assumption | rfl)) | ((first | apply xB | apply xD | apply xF | apply xH); (· first | assumption | kernel_rfl)) | fail)
            conv => whnf
            refine hT _ ⟨hoA, fun j hj h3 h4 => ?_, ⟨_, _, _, _, hgA, hgA, (q3.add i _).congr (rows_add hnz), (q4.add k _).congr (cols_add hnz)⟩, seen_add (by rw [hat]; exact ho) hr hc hsn⟩
            have hj2 : j < H1.size + 3 := hj
            by_cases hl : j = H1.size + 2
            · subst hl
              exact Eq.trans hgA (Eq.symm hgA)
            · (repeat (first | exact hsame _ hj h3 h4 | (refine (yR _ _ ?_).trans ?_; (· exact hoA)) | (refine (yS _ _ ?_).trans ?_; (· exact hoA)) | (refine (yT _ ?_).trans ?_; (· exact hoA))))
      · have hnp : ¬ Plain m := fun hp => ho (by rw [← hat]; exact (hp i k hnz).2.2)
        repeat' ((conv => whnf); first | ((first | (apply vB; (case h => assumption)) | (apply vA; (case h => assumption)) | (apply vC; (case h => assumption))); (case hk => exact kpA); (case he => omega)) | ((first | (apply vI; (case h => assumption)) | (apply vG; (case h => assumption)) | (apply vK; (case h => assumption))); (case hk => exact kpA); (case he => omega); (case hp => omega); (case' g => intro hr_ hc_)) | ((first | (apply vJ; (case h => assumption)) | (apply vH; (case h => assumption)) | (apply vL; (case h => assumption))); (case hk => exact kpA); (case he => omega); (case' g => intro hr_ hc_)) | (apply drawS_auto mixed tt_ok; (· kernel_rfl)) | apply zZ | apply yA | apply yB | ((first | apply zA | apply zC | apply zE | apply zG); (· assumption)) | ((first | apply zB | apply zD | apply zF | apply zH); (· assumption)) | apply zM | apply zN | apply zO | apply zP | apply zQ | apply zR | apply zS | apply zT | apply zU | (apply zV; (· omega)) | (apply zW; (· omega)) | (apply zX; (· (first | omega | (dsimp only; omega)))) | (apply zY; (try (apply zY; apply zX; (· omega))); apply zX; (· omega); apply zX; (· (first | omega | (dsimp only; omega)))) | ((first | apply yJ | apply yK | apply yL | apply yM | apply yN | apply yO); (· exact hgA); (· exact hsA)) | (apply yNP; (· exact hgA); (· exact hsA)) | ((first | apply zA | apply zC | apply zE | apply zG); (· omega)) | ((first | apply zB | apply zD | apply zF | apply zH); (· omega)) | ((first | apply zI | apply zK); (· assumption)) | ((first | apply zJ | apply zL); (· assumption)) | ((first | apply xA | apply xC | apply xE | apply xG); (· first | assumption | rfl)) | ((first | apply xB | apply xD | apply xF | apply xH); (· first | assumption | kernel_rfl)) | fail)
        conv => whnf
        refine hF _ ⟨hnp, hoA, fun j hj h3 h4 h5 => ?_, _, hgA, hgA⟩
        have hj2 : j < H1.size + 3 := hj
        by_cases hl : j = H.size
        · subst hl
          exact Eq.trans (b := some (.cells [.bool false] true 0)) hgA (Eq.symm hgA)
        · by_cases hl2 : j = H.size + 1
          · subst hl2
            exact Eq.trans (b := some (.cells [iv 0] true 0)) hgA (Eq.symm hgA)
          · (repeat (first | exact hsame _ hj h3 h4 | (refine (yR _ _ ?_).trans ?_; (· exact hoA)) | (refine (yS _ _ ?_).trans ?_; (· exact hoA)) | (refine (yT _ ?_).trans ?_; (· exact hoA))))
  · rintro HH ⟨hs, hsame, _, hsn⟩
    have hs' : H1.size + 3 ≤ HH.size := hs
    have hp := seen_all hsn
    have gl := (hsame (H1.size + 2) hoA (by omega) (by omega)).trans hgA
    have ga2 : HH.get H.size = some (.cells [.bool false] true 0) := (hsame H.size hoA (by omega) (by omega)).trans hgA
    have gb2 : HH.get (H.size + 1) = some (.cells [iv 0] true 0) := (hsame (H.size + 1) hoA (by omega) (by omega)).trans hgA
    have ge : HH.get (H1.size + 1) = some (.deferred []) := (hsame (H1.size + 1) hoA (by omega) (by omega)).trans hgA
    have hHH : H.le HH := ⟨by omega, fun j hj => (hsame j hoA (by omega) (by omega)).trans (AHeap.le.get leA j hj)⟩
    repeat' ((conv => whnf); first | ((first | (apply vB; (case h => assumption)) | (apply vA; (case h => assumption)) | (apply vC; (case h => assumption))); (case hk => exact kpA); (case he => omega)) | ((first | (apply vI; (case h => assumption)) | (apply vG; (case h => assumption)) | (apply vK; (case h => assumption))); (case hk => exact kpA); (case he => omega); (case hp => omega); (case' g => intro hr_ hc_)) | ((first | (apply vJ; (case h => assumption)) | (apply vH; (case h => assumption)) | (apply vL; (case h => assumption))); (case hk => exact kpA); (case he => omega); (case' g => intro hr_ hc_)) | (apply drawS_auto mixed tt_ok; (· kernel_rfl)) | apply zZ | apply yA | apply yB | ((first | apply zA | apply zC | apply zE | apply zG); (· assumption)) | ((first | apply zB | apply zD | apply zF | apply zH); (· assumption)) | apply zM | apply zN | apply zO | apply zP | apply zQ | apply zR | apply zS | apply zT | apply zU | (apply zV; (· omega)) | (apply zW; (· omega)) | (apply zX; (· (first | omega | (dsimp only; omega)))) | (apply zY; (try (apply zY; apply zX; (· omega))); apply zX; (· omega); apply zX; (· (first | omega | (dsimp only; omega)))) | ((first | apply yJ | apply yK | apply yL | apply yM | apply yN | apply yO); (· exact hgA); (· exact hsA)) | (apply yNP; (· exact hgA); (· exact hsA)) | ((first | apply zA | apply zC | apply zE | apply zG); (· omega)) | ((first | apply zB | apply zD | apply zF | apply zH); (· omega)) | ((first | apply zI | apply zK); (· assumption)) | ((first | apply zJ | apply zL); (· assumption)) | ((first | apply xA | apply xC | apply xE | apply xG); (· first | assumption | rfl)) | ((first | apply xB | apply xD | apply xF | apply xH); (· first | assumption | kernel_rfl)) | fail)
    conv => whnf
    exact h1 hp _ leA
  · rintro HH ⟨hnp, hs, hsame, r, g1, g2⟩
    have hs' : H1.size + 3 ≤ HH.size := hs
    have ga2 : HH.get H.size = some (.cells [.bool false] true 0) := (hsame H.size hoA (by omega) (by omega) (by omega)).trans hgA
    have gb2 : HH.get (H.size + 1) = some (.cells [iv 0] true 0) := (hsame (H.size + 1) hoA (by omega) (by omega) (by omega)).trans hgA
    have ge : HH.get (H1.size + 1) = some (.deferred []) := (hsame (H1.size + 1) hoA (by omega) (by omega) (by omega)).trans hgA
    have hHH : H.le HH := ⟨by omega, fun j hj => (hsame j hoA (by omega) (by omega) (by omega)).trans (AHeap.le.get leA j hj)⟩
    repeat' ((conv => whnf); first | ((first | (apply vB; (case h => assumption)) | (apply vA; (case h => assumption)) | (apply vC; (case h => assumption))); (case hk => exact kpA); (case he => omega)) | ((first | (apply vI; (case h => assumption)) | (apply vG; (case h => assumption)) | (apply vK; (case h => assumption))); (case hk => exact kpA); (case he => omega); (case hp => omega); (case' g => intro hr_ hc_)) | ((first | (apply vJ; (case h => assumption)) | (apply vH; (case h => assumption)) | (apply vL; (case h => assumption))); (case hk => exact kpA); (case he => omega); (case' g => intro hr_ hc_)) | (apply drawS_auto mixed tt_ok; (· kernel_rfl)) | apply zZ | apply yA | apply yB | ((first | apply zA | apply zC | apply zE | apply zG); (· assumption)) | ((first | apply zB | apply zD | apply zF | apply zH); (· assumption)) | apply zM | apply zN | apply zO | apply zP | apply zQ | apply zR | apply zS | apply zT | apply zU | (apply zV; (· omega)) | (apply zW; (· omega)) | (apply zX; (· (first | omega | (dsimp only; omega)))) | (apply zY; (try (apply zY; apply zX; (· omega))); apply zX; (· omega); apply zX; (· (first | omega | (dsimp only; omega)))) | ((first | apply yJ | apply yK | apply yL | apply yM | apply yN | apply yO); (· exact hgA); (· exact hsA)) | (apply yNP; (· exact hgA); (· exact hsA)) | ((first | apply zA | apply zC | apply zE | apply zG); (· omega)) | ((first | apply zB | apply zD | apply zF | apply zH); (· omega)) | ((first | apply zI | apply zK); (· assumption)) | ((first | apply zJ | apply zL); (· assumption)) | ((first | apply xA | apply xC | apply xE | apply xG); (· first | assumption | rfl)) | ((first | apply xB | apply xD | apply xF | apply xH); (· first | assumption | kernel_rfl)) | fail)
    conv => whnf
    exact h2 hnp _ leA
end Go.Abs
