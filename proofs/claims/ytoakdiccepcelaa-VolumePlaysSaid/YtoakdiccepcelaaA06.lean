/- Channels of volumes xs cells; contracts of what is done with one channel. No conditions beyond those stated. -/
import Derived.Test.YtoakdiccepcelaaQ06
import Derived.Test.YtoakdiccepcelaaM06
set_option linter.all false
set_option maxHeartbeats 1000000
set_option maxRecDepth 20000
namespace Go.Abs
open Go Go.Proofs

structure Chan where
  fr : Int
  to : Int
  n : Int
  i : Int
  gain : Int
  mute : Bool
def chC (c : Chan) : List Value := [iv c.fr, iv c.to, iv c.n, iv c.i, iv c.gain, .bool c.mute]
def chR (c : Chan) : List Value := [iv c.gain, .bool c.mute, iv c.fr, iv c.to, iv c.n, iv c.i]
def Six (f : Chan → List Value) : Prop := ∀ c, (f c).length = 6
theorem six_C : Six chC := fun _ => rfl
theorem six_R : Six chR := fun _ => rfl
def flatB (f : Chan → List Value) : List Chan → List Value
  | [] => []
  | c :: cs => f c ++ flatB f cs
section
variable {f : Chan → List Value}
theorem flat_len (hf : Six f) : ∀ cs : List Chan, (flatB f cs).length = cs.length * 6
  | [] => rfl
  | c :: cs => by simp [flatB, hf c, flat_len hf cs]; omega
theorem flat_app : ∀ xs bs : List Chan, flatB f (xs ++ bs) = flatB f xs ++ flatB f bs
  | [], bs => rfl
  | a :: xs, bs => by simp [flatB, flat_app xs bs]
theorem flat_one (c : Chan) : flatB f [c] = f c := by simp [flatB]
theorem flat_at (hf : Six f) : ∀ {cs : List Chan} {k : Nat} (hk : k < cs.length), ∃ A B, flatB f cs = A ++ (f cs[k] ++ B) ∧ A.length = k * 6 ∧ ∀ c', flatB f (cs.set k c') = A ++ (f c' ++ B)
  | c :: cs, 0, _ => ⟨[], flatB f cs, rfl, rfl, fun _ => rfl⟩
  | c :: cs, k + 1, hk => by
    obtain ⟨A, B, h1, h2, h3⟩ := flat_at hf (cs := cs) (k := k) (by simpa using hk)
    exact ⟨f c ++ A, B, by simp [flatB, h1], by simp [hf c, h2]; omega, fun c' => by simp [flatB, h3]⟩
theorem flat_part (hf : Six f) {cs : List Chan} {k a n : Nat} (hk : k < cs.length) (hn : a + n ≤ 6) : ((flatB f cs).drop (k * 6 + a)).take n = ((f cs[k]).drop a).take n := by
  obtain ⟨A, B, h1, h2, _⟩ := flat_at hf hk
  rw [h1, List.drop_append, List.drop_eq_nil_of_le (by omega), List.nil_append, h2, show k * 6 + a - k * 6 = a by omega, List.drop_append, hf, List.take_append_of_le_length (by rw [List.length_drop, hf]; omega)]
theorem flatG_get (hf : Six f) {cs : List Chan} {k a : Nat} (hk : k < cs.length) (ha : a < 6) : (flatB f cs)[k * 6 + a]? = (f cs[k])[a]? := by
  obtain ⟨A, B, h1, h2, _⟩ := flat_at hf hk
  rw [h1, List.getElem?_append_right (by omega), h2, show k * 6 + a - k * 6 = a by omega, List.getElem?_append_left (by rw [hf]; exact ha)]
theorem flat_set (hf : Six f) {cs : List Chan} {k a : Nat} {v : Value} {c' : Chan} (hk : k < cs.length) (ha : a < 6) (e : (f cs[k]).set a v = f c') : (flatB f cs).set (k * 6 + a) v = flatB f (cs.set k c') := by
  obtain ⟨A, B, h1, h2, h3⟩ := flat_at hf hk
  rw [h1, h3, List.set_append_right _ _ (by omega), h2, show k * 6 + a - k * 6 = a by omega, List.set_append_left _ _ (by rw [hf]; exact ha), e]
theorem flat_setR (hf : Six f) {cs : List Chan} {k a : Nat} {vs : List Value} {c' : Chan} (hk : k < cs.length) (ha : a + vs.length ≤ 6) (e : setRange (f cs[k]) a vs = f c') : setRange (flatB f cs) (k * 6 + a) vs = flatB f (cs.set k c') := by
  obtain ⟨A, B, h1, h2, h3⟩ := flat_at hf hk
  have e1 : (A ++ (f cs[k] ++ B)).take (k * 6 + a) = A ++ (f cs[k]).take a := by
    rw [List.take_append, List.take_of_length_le (by omega), h2, show k * 6 + a - k * 6 = a by omega, List.take_append_of_le_length (by rw [hf]; omega)]
  have e2 : (A ++ (f cs[k] ++ B)).drop (k * 6 + a + vs.length) = (f cs[k]).drop (a + vs.length) ++ B := by
    rw [List.drop_append, List.drop_eq_nil_of_le (by omega), List.nil_append, h2, show k * 6 + a + vs.length - k * 6 = a + vs.length by omega, List.drop_append_of_le_length (by rw [hf]; omega)]
  unfold setRange at e ⊢
  rw [h1, e1, e2, h3, ← e]
  simp
/-! loads and stores -/
variable {H : AHeap} {ob off : Nat} {cs : List Chan} {k : Nat} {own : Bool} {sz : Nat}
theorem ld (g : H.get ob = some (.cells (flatB f cs) own sz)) (hf : Six f) (hk : k < cs.length) (a n : Nat) {K : List Value → Prop} (ho : off = k * 6 + a) (hn : a + n ≤ 6) (hK : K (((f cs[k]).drop a).take n)) : loadsK H ob off n K := by
  subst ho
  exact loadsK_of g (by rw [flat_len hf]; omega) (by rw [flat_part hf hk hn]; exact hK)
theorem ld1 (g : H.get ob = some (.cells (flatB f cs) own sz)) (hf : Six f) (hk : k < cs.length) (a : Nat) {v : Value} {K : Value → Prop} (ho : off = k * 6 + a) (hv : (f cs[k])[a]? = some v) (ha : a < 6) (hK : K v) : loadK H ob off K := by
  subst ho
  exact loadK_get g (by rw [flatG_get hf hk ha]; exact hv) hK
theorem st1 (g : H.get ob = some (.cells (flatB f cs) true sz)) (hf : Six f) (hk : k < cs.length) (a : Nat) (c' : Chan) {v : Value} {K : AHeap → Prop} (ho : off = k * 6 + a) (ha : a < 6) (e : (f cs[k]).set a v = f c') (hK : K (H.set ob (.cells (flatB f (cs.set k c')) true sz))) : storeK H ob off v K := by
  subst ho
  exact storeK_at g (by rw [flat_len hf]; omega) (flat_set hf hk ha e) hK
theorem stR (g : H.get ob = some (.cells (flatB f cs) true sz)) (hf : Six f) (hk : k < cs.length) (a : Nat) (c' : Chan) {vs : List Value} {K : AHeap → Prop} (ho : off = k * 6 + a) (ha : a + vs.length ≤ 6) (e : setRange (f cs[k]) a vs = f c') (hK : K (H.set ob (.cells (flatB f (cs.set k c')) true sz))) : storesK H ob off vs K := by
  subst ho
  exact hl_stores g ⟨by rw [flat_len hf]; omega, flat_setR hf hk ha e⟩ hK
end

/-! what is done with a channel -/
def nowC (c : Chan) : Int := nowF c.fr c.to c.n c.i
def tgt (c : Chan) : Int := if c.mute = true then 0 else c.gain
def turnC (f : Int) (c : Chan) : Chan := if tgt c = c.to then c else { c with fr := nowC c, to := tgt c, n := f, i := 0 }
def advC (j : Int) (c : Chan) : Chan := { c with i := min (c.i + j) c.n }
def okC (c : Chan) : Prop := isGain c.fr ∧ isGain c.to ∧ isGain c.gain ∧ (0 ≤ c.n ∧ c.n ≤ 1000000000) ∧ (0 ≤ c.i ∧ c.i ≤ c.n)
theorem tgt_gain {c : Chan} (h : okC c) : isGain (tgt c) := by
  unfold tgt
  split
  · exact ⟨by omega, by omega⟩
  · exact h.2.2.1
theorem now_gain {c : Chan} (h : okC c) : isGain (nowC c) := nowF_gain h.1 h.2.1 h.2.2.2.2.1
theorem turn_ok {f : Int} {c : Chan} (h : okC c) (hf : 0 ≤ f ∧ f ≤ 1000000000) : okC (turnC f c) := by
  unfold turnC
  split
  · exact h
  · exact ⟨now_gain h, tgt_gain h, h.2.2.1, hf, by dsimp only; omega⟩
theorem adv_ok {j : Int} (hj : 0 ≤ j) {c : Chan} (h : okC c) : okC (advC j c) := ⟨h.1, h.2.1, h.2.2.1, h.2.2.2.1, by have := h.2.2.2; unfold advC; dsimp only; omega⟩
def eqC (a b : Chan) : Prop := a.to = b.to ∧ a.n = b.n ∧ a.i = b.i ∧ a.gain = b.gain ∧ a.mute = b.mute ∧ (a.i < a.n → a.fr = b.fr)
theorem eq_now {a b : Chan} (h : eqC a b) : nowC a = nowC b := by
  obtain ⟨h1, h2, h3, h4, h5, h6⟩ := h
  unfold nowC nowF
  rw [h1, h2, h3]
  by_cases hi : b.n ≤ b.i
  · rw [if_pos hi, if_pos hi]
  · rw [if_neg hi, if_neg hi, h6 (by omega)]
theorem eq_tgt {a b : Chan} (h : eqC a b) : tgt a = tgt b := by
  unfold tgt
  rw [h.2.2.2.1, h.2.2.2.2.1]
theorem eq_turn {a b : Chan} (f : Int) (h : eqC a b) : eqC (turnC f a) (turnC f b) := by
  unfold turnC
  rw [eq_tgt h, h.1]
  split
  · exact h
  · exact ⟨rfl, rfl, rfl, h.2.2.2.1, h.2.2.2.2.1, fun _ => eq_now h⟩
theorem eq_adv {a b : Chan} {j : Int} (hj : 0 ≤ j) (h : eqC a b) : eqC (advC j a) (advC j b) := by
  obtain ⟨h1, h2, h3, h4, h5, h6⟩ := h
  unfold advC
  exact ⟨h1, h2, by dsimp only; rw [h2, h3], h4, h5, fun hl => h6 (by dsimp only at hl; omega)⟩
theorem eq_gain {a b : Chan} (g : Int) (h : eqC a b) : eqC { a with gain := g } { b with gain := g } := ⟨h.1, h.2.1, h.2.2.1, rfl, h.2.2.2.2.1, h.2.2.2.2.2⟩
theorem eq_mute {a b : Chan} (g : Bool) (h : eqC a b) : eqC { a with mute := g } { b with mute := g } := ⟨h.1, h.2.1, h.2.2.1, h.2.2.2.1, rfl, h.2.2.2.2.2⟩
theorem adv_zero {c : Chan} (h : c.i ≤ c.n) : advC 0 c = c := by
  obtain ⟨f, t, n, i, g, m⟩ := c
  unfold advC
  dsimp only at h ⊢
  congr 1
  omega
/-! lists of channels, changed one after the other -/
def updN (F : Nat → Chan → Chan) (k : Nat) (cs : List Chan) : List Chan := cs.mapIdx fun j c => if j < k then F j c else c
section
variable {F : Nat → Chan → Chan} {cs : List Chan} {k : Nat}
theorem updN_len : (updN F k cs).length = cs.length := by simp [updN]
theorem updN_get (h : k < cs.length) (h' : k < (updN F k cs).length) : (updN F k cs)[k] = cs[k] := by simp [updN]
theorem updN_zero : updN F 0 cs = cs := by
  apply List.ext_getElem
  · simp [updN]
  · intro i h1 h2
    simp [updN]
theorem updN_all : updN F cs.length cs = cs.mapIdx F := by
  apply List.ext_getElem
  · simp [updN]
  · intro i h1 h2
    have : i < cs.length := by simpa [updN] using h1
    simp [updN, this]
theorem updN_set (h : k < cs.length) {c : Chan} (e : c = F k cs[k]) : (updN F k cs).set k c = updN F (k + 1) cs := by
  subst e
  apply List.ext_getElem
  · simp [updN]
  · intro i h1 h2
    have hi : i < cs.length := by simpa [updN] using h2
    rw [List.getElem_set]
    by_cases hik : k = i
    · subst hik
      simp [updN]
    · rw [if_neg hik]
      simp only [updN, List.getElem_mapIdx]
      by_cases h3 : i < k
      · rw [if_pos h3, if_pos (by omega)]
      · rw [if_neg h3, if_neg (by omega)]
theorem mapIdx_take (h : k < cs.length) : (cs.mapIdx F).take (k + 1) = (cs.mapIdx F).take k ++ [F k cs[k]] := by
  rw [take_succ_of (by simpa using h), List.getElem_mapIdx]
end
def eqL (xs bs : List Chan) : Prop := xs.length = bs.length ∧ ∀ (k : Nat) (h : k < xs.length) (h' : k < bs.length), eqC xs[k] bs[k]
def okL (cs : List Chan) : Prop := ∀ c ∈ cs, okC c
theorem ok_map {cs : List Chan} {F : Nat → Chan → Chan} (h : okL cs) (hF : ∀ j c, okC c → okC (F j c)) : okL (cs.mapIdx F) := fun c hc => by
  obtain ⟨k, hk, rfl⟩ := List.getElem_of_mem hc
  rw [List.getElem_mapIdx]
  exact hF _ _ (h _ (List.getElem_mem _))
theorem eq_map {xs bs : List Chan} {F : Nat → Chan → Chan} (h : eqL xs bs) (hF : ∀ j a b, eqC a b → eqC (F j a) (F j b)) : eqL (xs.mapIdx F) (bs.mapIdx F) := ⟨by simpa using h.1, fun k h1 h2 => by
  rw [List.getElem_mapIdx, List.getElem_mapIdx]
  exact hF _ _ _ (h.2 k (by simpa using h1) (by simpa using h2))⟩
def gainF (gs : List Int) (f : Int) (j : Nat) (c : Chan) : Chan := turnC f { c with gain := gs.getD j 0 }
def muteF (ms : List Bool) (f : Int) (j : Nat) (c : Chan) : Chan := turnC f { c with mute := ms.getD j false }
/-! contracts: one channel -/
theorem target_c {c : Chan} {H : AHeap} {K : CK} (h : K (.returned (iv (tgt c))) H) : callS P (fnV 91) [.agg ⟨chC c⟩] H K := by
  obtain ⟨a, b, n, i, g, m⟩ := c
  refine callS_forget ?_
  show callS P (fnV 91) [.agg ⟨[iv a, iv b, iv n, iv i, iv g, .bool m]⟩] H _
  refine callS_walk tt_ok Try.func91 rfl (by kernel_rfl) ?_
  conv => whnf
  cases m with
  | true =>
    repeat' ((conv => whnf); first | ((first | (apply vB; (case h => with_reducible assumption)) | (apply vA; (case h => with_reducible assumption)) | (apply vC; (case h => with_reducible assumption)) | (apply vD; (case h => with_reducible assumption))); (case hk => exact kpA); (case he => omega)) | ((first | (apply vI; (case h => with_reducible assumption)) | (apply vG; (case h => with_reducible assumption)) | (apply vK; (case h => with_reducible assumption))); (case hk => exact kpA); (case he => omega); (case hp => omega); (case' g => intro hr_ hc_)) | ((first | (apply vJ; (case h => with_reducible assumption)) | (apply vH; (case h => with_reducible assumption)) | (apply vL; (case h => with_reducible assumption))); (case hk => exact kpA); (case he => omega); (case' g => intro hr_ hc_)) | apply yA | apply yB | ((first | apply zA | apply zC | apply zE | apply zG); (· with_reducible assumption)) | ((first | apply zB | apply zD | apply zF | apply zH); (· with_reducible assumption)) | apply zM | apply zN | apply zO | apply zP | apply zQ | apply zR | apply zS | apply zT | apply zU | (apply zV; (· omega)) | (apply zW; (· omega)) | (apply zX; (· (first | omega | (dsimp only; omega)))) | (apply zY; (try (apply zY; apply zX; (· omega))); apply zX; (· omega); apply zX; (· (first | omega | (dsimp only; omega)))) | ((first | apply yJ | apply yK | apply yL | apply yM | apply yN | apply yO); (· exact hgA); (· exact hsA)) | (apply yNP; (· exact hgA); (· exact hsA)) | ((first | apply zA | apply zC | apply zE | apply zG); (· omega)) | ((first | apply zB | apply zD | apply zF | apply zH); (· omega)) | ((first | apply zI | apply zK); (· with_reducible assumption)) | ((first | apply zJ | apply zL); (· with_reducible assumption)) | fail)
    conv => whnf
    exact ⟨leA, _, rfl, rfl, h⟩
  | false =>
    repeat' ((conv => whnf); first | ((first | (apply vB; (case h => with_reducible assumption)) | (apply vA; (case h => with_reducible assumption)) | (apply vC; (case h => with_reducible assumption)) | (apply vD; (case h => with_reducible assumption))); (case hk => exact kpA); (case he => omega)) | ((first | (apply vI; (case h => with_reducible assumption)) | (apply vG; (case h => with_reducible assumption)) | (apply vK; (case h => with_reducible assumption))); (case hk => exact kpA); (case he => omega); (case hp => omega); (case' g => intro hr_ hc_)) | ((first | (apply vJ; (case h => with_reducible assumption)) | (apply vH; (case h => with_reducible assumption)) | (apply vL; (case h => with_reducible assumption))); (case hk => exact kpA); (case he => omega); (case' g => intro hr_ hc_)) | apply yA | apply yB | ((first | apply zA | apply zC | apply zE | apply zG); (· with_reducible assumption)) | ((first | apply zB | apply zD | apply zF | apply zH); (· with_reducible assumption)) | apply zM | apply zN | apply zO | apply zP | apply zQ | apply zR | apply zS | apply zT | apply zU | (apply zV; (· omega)) | (apply zW; (· omega)) | (apply zX; (· (first | omega | (dsimp only; omega)))) | (apply zY; (try (apply zY; apply zX; (· omega))); apply zX; (· omega); apply zX; (· (first | omega | (dsimp only; omega)))) | ((first | apply yJ | apply yK | apply yL | apply yM | apply yN | apply yO); (· exact hgA); (· exact hsA)) | (apply yNP; (· exact hgA); (· exact hsA)) | ((first | apply zA | apply zC | apply zE | apply zG); (· omega)) | ((first | apply zB | apply zD | apply zF | apply zH); (· omega)) | ((first | apply zI | apply zK); (· with_reducible assumption)) | ((first | apply zJ | apply zL); (· with_reducible assumption)) | fail)
    conv => whnf
    exact ⟨leA, _, rfl, rfl, h⟩
theorem nowP_c {c : Chan} (hc : okC c) {H : AHeap} {K : CK} (h : K (.returned (iv (nowC c))) H) : callS P (fnV 77) [.agg ⟨((chC c).drop 0).take 4⟩] H K := now_c hc.1 hc.2.1 hc.2.2.2.1 hc.2.2.2.2 h
theorem turn_c {ob off k : Nat} {cs : List Chan} {f : Int} {H : AHeap} {K : CK} (g : H.get ob = some (.cells (flatB chC cs) true 6)) (hk : k < cs.length) (ho : off = k * 6) (hob : ob < H.size) (hc : okC cs[k])
    (h : ∀ H', H'.size = H.size → (∀ j, j ≠ ob → H'.get j = H.get j) → H'.get ob = some (.cells (flatB chC (cs.set k (turnC f cs[k]))) true 6) → K (.returned (.tuple #[])) H') : callS P (fnV 72) [.pointer (some ⟨ob, off, none⟩), iv f] H K := by
  refine callS_walk tt_ok Try.func72 rfl (by kernel_rfl) ?_
  conv => whnf
  by_cases he : tgt cs[k] = cs[k].to
  · have e : cs.set k (turnC f cs[k]) = cs := by
      unfold turnC
      rw [if_pos he]
      exact List.set_getElem_self _
    repeat' ((conv => whnf); first | (refine ld g six_C hk 0 6 ?_ ?_ ?_; (· exact hoA); (· omega)) | refine target_c (c := cs[k]) ?_ | (refine ld1 g six_C hk 1 ?_ rfl ?_ ?_; (· exact hoA); (· omega)) | ((first | (apply vB; (case h => with_reducible assumption)) | (apply vA; (case h => with_reducible assumption)) | (apply vC; (case h => with_reducible assumption))); (case hk => exact kpA); (case he => omega)) | ((first | (apply vI; (case h => with_reducible assumption)) | (apply vG; (case h => with_reducible assumption)) | (apply vK; (case h => with_reducible assumption))); (case hk => exact kpA); (case he => omega); (case hp => omega); (case' g => intro hr_ hc_)) | ((first | (apply vJ; (case h => with_reducible assumption)) | (apply vH; (case h => with_reducible assumption)) | (apply vL; (case h => with_reducible assumption))); (case hk => exact kpA); (case he => omega); (case' g => intro hr_ hc_)) | (apply drawS_auto mixed tt_ok; (· kernel_rfl)) | apply zZ | apply yA | apply yB | ((first | apply zA | apply zC | apply zE | apply zG); (· with_reducible assumption)) | ((first | apply zB | apply zD | apply zF | apply zH); (· with_reducible assumption)) | apply zM | apply zN | apply zO | apply zP | apply zQ | apply zR | apply zS | apply zT | apply zU | (apply zV; (· omega)) | (apply zW; (· omega)) | (apply zX; (· (first | omega | (dsimp only; omega)))) | (apply zY; (try (apply zY; apply zX; (· omega))); apply zX; (· omega); apply zX; (· (first | omega | (dsimp only; omega)))) | ((first | apply yJ | apply yK | apply yL | apply yM | apply yN | apply yO); (· exact hgA); (· exact hsA)) | (apply yNP; (· exact hgA); (· exact hsA)) | ((first | apply zA | apply zC | apply zE | apply zG); (· omega)) | ((first | apply zB | apply zD | apply zF | apply zH); (· omega)) | ((first | apply zI | apply zK); (· with_reducible assumption)) | ((first | apply zJ | apply zL); (· with_reducible assumption)) | fail)
    conv => whnf
    exact h _ rfl (fun _ _ => rfl) (by rw [e]; exact g)
  · have e : setRange (chC cs[k]) 0 [iv (nowC cs[k]), iv (tgt cs[k]), iv f, iv 0] = chC (turnC f cs[k]) := by
      unfold turnC
      rw [if_neg he]
      rfl
    repeat' ((conv => whnf); first | (refine ld g six_C hk 0 6 ?_ ?_ ?_; (· exact hoA); (· omega)) | refine target_c (c := cs[k]) ?_ | (refine ld1 g six_C hk 1 ?_ rfl ?_ ?_; (· exact hoA); (· omega)) | (refine ld g six_C hk 0 4 ?_ ?_ ?_; (· exact hoA); (· omega)) | refine nowP_c hc ?_ | (refine stR g six_C hk 0 _ ?_ ?_ e ?_; (· exact hoA); (· simp)) | ((first | (apply vB; (case h => with_reducible assumption)) | (apply vA; (case h => with_reducible assumption)) | (apply vC; (case h => with_reducible assumption))); (case hk => exact kpA); (case he => omega)) | ((first | (apply vI; (case h => with_reducible assumption)) | (apply vG; (case h => with_reducible assumption)) | (apply vK; (case h => with_reducible assumption))); (case hk => exact kpA); (case he => omega); (case hp => omega); (case' g => intro hr_ hc_)) | ((first | (apply vJ; (case h => with_reducible assumption)) | (apply vH; (case h => with_reducible assumption)) | (apply vL; (case h => with_reducible assumption))); (case hk => exact kpA); (case he => omega); (case' g => intro hr_ hc_)) | (apply drawS_auto mixed tt_ok; (· kernel_rfl)) | apply zZ | apply yA | apply yB | ((first | apply zA | apply zC | apply zE | apply zG); (· with_reducible assumption)) | ((first | apply zB | apply zD | apply zF | apply zH); (· with_reducible assumption)) | apply zM | apply zN | apply zO | apply zP | apply zQ | apply zR | apply zS | apply zT | apply zU | (apply zV; (· omega)) | (apply zW; (· omega)) | (apply zX; (· (first | omega | (dsimp only; omega)))) | (apply zY; (try (apply zY; apply zX; (· omega))); apply zX; (· omega); apply zX; (· (first | omega | (dsimp only; omega)))) | ((first | apply yJ | apply yK | apply yL | apply yM | apply yN | apply yO); (· exact hgA); (· exact hsA)) | (apply yNP; (· exact hgA); (· exact hsA)) | ((first | apply zA | apply zC | apply zE | apply zG); (· omega)) | ((first | apply zB | apply zD | apply zF | apply zH); (· omega)) | ((first | apply zI | apply zK); (· with_reducible assumption)) | ((first | apply zJ | apply zL); (· with_reducible assumption)) | fail)
    conv => whnf
    exact h _ rfl (fun j hj => AHeap.set_ne _ _ hj) (AHeap.set_same _ _ _)
theorem wnow_c {c : Chan} (hc : okC c) {H : AHeap} {K : CK} (h : K (.returned (iv (nowC c))) H) : callS P (fnV 79) [.agg ⟨chR c⟩] H K := by
  obtain ⟨a, b, n, i, g, m⟩ := c
  refine callS_forget ?_
  show callS P (fnV 79) [.agg ⟨[iv g, .bool m, iv a, iv b, iv n, iv i]⟩] H _
  obtain ⟨h1, h2, h3, h4, h5⟩ := hc
  dsimp only at h1 h2 h3 h4 h5
  refine callS_walk tt_ok Try.func79 rfl (by kernel_rfl) ?_
  conv => whnf
  repeat' ((conv => whnf); first | (refine grown_c h1 h2 h4 ?_ ?_; (· omega)) | ((first | (apply vB; (case h => with_reducible assumption)) | (apply vA; (case h => with_reducible assumption)) | (apply vC; (case h => with_reducible assumption))); (case hk => exact kpA); (case he => omega)) | ((first | (apply vI; (case h => with_reducible assumption)) | (apply vG; (case h => with_reducible assumption)) | (apply vK; (case h => with_reducible assumption))); (case hk => exact kpA); (case he => omega); (case hp => omega); (case' g => intro hr_ hc_)) | ((first | (apply vJ; (case h => with_reducible assumption)) | (apply vH; (case h => with_reducible assumption)) | (apply vL; (case h => with_reducible assumption))); (case hk => exact kpA); (case he => omega); (case' g => intro hr_ hc_)) | apply yA | apply yB | ((first | apply zA | apply zC | apply zE | apply zG); (· with_reducible assumption)) | ((first | apply zB | apply zD | apply zF | apply zH); (· with_reducible assumption)) | apply zM | apply zN | apply zO | apply zP | apply zQ | apply zR | apply zS | apply zT | apply zU | (apply zV; (· omega)) | (apply zW; (· omega)) | (apply zX; (· (first | omega | (dsimp only; omega)))) | (apply zY; (try (apply zY; apply zX; (· omega))); apply zX; (· omega); apply zX; (· (first | omega | (dsimp only; omega)))) | ((first | apply yJ | apply yK | apply yL | apply yM | apply yN | apply yO); (· exact hgA); (· exact hsA)) | (apply yNP; (· exact hgA); (· exact hsA)) | ((first | apply zA | apply zC | apply zE | apply zG); (· omega)) | ((first | apply zB | apply zD | apply zF | apply zH); (· omega)) | ((first | apply zI | apply zK); (· with_reducible assumption)) | ((first | apply zJ | apply zL); (· with_reducible assumption)) | fail)
  conv => whnf
  exact ⟨leA, _, rfl, rfl, h⟩
theorem aim_c {c : Chan} {f : Int} (hc : okC c) {H : AHeap} {K : CK} (h : K (.returned (.agg ⟨chR (turnC f c)⟩)) H) : callS P (fnV 80) [.agg ⟨chR c⟩, iv f] H K := by
  obtain ⟨a, b, n, i, g, m⟩ := c
  refine callS_forget ?_
  show callS P (fnV 80) [.agg ⟨[iv g, .bool m, iv a, iv b, iv n, iv i]⟩, iv f] H _
  refine callS_walk tt_ok Try.func80 rfl (by kernel_rfl) ?_
  conv => whnf
  cases m with
  | true =>
    by_cases he : (0 : Int) = b
    · have e : turnC f ⟨a, b, n, i, g, true⟩ = ⟨a, b, n, i, g, true⟩ := by unfold turnC tgt; rw [if_pos (by simpa using he)]
      rw [e] at h
      repeat' ((conv => whnf); first | ((first | (apply vB; (case h => with_reducible assumption)) | (apply vA; (case h => with_reducible assumption)) | (apply vC; (case h => with_reducible assumption)) | (apply vD; (case h => with_reducible assumption))); (case hk => exact kpA); (case he => omega)) | ((first | (apply vI; (case h => with_reducible assumption)) | (apply vG; (case h => with_reducible assumption)) | (apply vK; (case h => with_reducible assumption))); (case hk => exact kpA); (case he => omega); (case hp => omega); (case' g => intro hr_ hc_)) | ((first | (apply vJ; (case h => with_reducible assumption)) | (apply vH; (case h => with_reducible assumption)) | (apply vL; (case h => with_reducible assumption))); (case hk => exact kpA); (case he => omega); (case' g => intro hr_ hc_)) | apply yA | apply yB | ((first | apply zA | apply zC | apply zE | apply zG); (· with_reducible assumption)) | ((first | apply zB | apply zD | apply zF | apply zH); (· with_reducible assumption)) | apply zM | apply zN | apply zO | apply zP | apply zQ | apply zR | apply zS | apply zT | apply zU | (apply zV; (· omega)) | (apply zW; (· omega)) | (apply zX; (· (first | omega | (dsimp only; omega)))) | (apply zY; (try (apply zY; apply zX; (· omega))); apply zX; (· omega); apply zX; (· (first | omega | (dsimp only; omega)))) | ((first | apply yJ | apply yK | apply yL | apply yM | apply yN | apply yO); (· exact hgA); (· exact hsA)) | (apply yNP; (· exact hgA); (· exact hsA)) | ((first | apply zA | apply zC | apply zE | apply zG); (· omega)) | ((first | apply zB | apply zD | apply zF | apply zH); (· omega)) | ((first | apply zI | apply zK); (· with_reducible assumption)) | ((first | apply zJ | apply zL); (· with_reducible assumption)) | fail)
      conv => whnf
      exact ⟨leA, _, rfl, rfl, h⟩
    · have e : turnC f ⟨a, b, n, i, g, true⟩ = ⟨nowC ⟨a, b, n, i, g, true⟩, 0, f, 0, g, true⟩ := by unfold turnC tgt; rw [if_neg (by simpa using he)]; rfl
      rw [e] at h
      repeat' ((conv => whnf); first | refine wnow_c (c := ⟨a, b, n, i, g, true⟩) hc ?_ | ((first | (apply vB; (case h => with_reducible assumption)) | (apply vA; (case h => with_reducible assumption)) | (apply vC; (case h => with_reducible assumption)) | (apply vD; (case h => with_reducible assumption))); (case hk => exact kpA); (case he => omega)) | ((first | (apply vI; (case h => with_reducible assumption)) | (apply vG; (case h => with_reducible assumption)) | (apply vK; (case h => with_reducible assumption))); (case hk => exact kpA); (case he => omega); (case hp => omega); (case' g => intro hr_ hc_)) | ((first | (apply vJ; (case h => with_reducible assumption)) | (apply vH; (case h => with_reducible assumption)) | (apply vL; (case h => with_reducible assumption))); (case hk => exact kpA); (case he => omega); (case' g => intro hr_ hc_)) | apply yA | apply yB | ((first | apply zA | apply zC | apply zE | apply zG); (· with_reducible assumption)) | ((first | apply zB | apply zD | apply zF | apply zH); (· with_reducible assumption)) | apply zM | apply zN | apply zO | apply zP | apply zQ | apply zR | apply zS | apply zT | apply zU | (apply zV; (· omega)) | (apply zW; (· omega)) | (apply zX; (· (first | omega | (dsimp only; omega)))) | (apply zY; (try (apply zY; apply zX; (· omega))); apply zX; (· omega); apply zX; (· (first | omega | (dsimp only; omega)))) | ((first | apply yJ | apply yK | apply yL | apply yM | apply yN | apply yO); (· exact hgA); (· exact hsA)) | (apply yNP; (· exact hgA); (· exact hsA)) | ((first | apply zA | apply zC | apply zE | apply zG); (· omega)) | ((first | apply zB | apply zD | apply zF | apply zH); (· omega)) | ((first | apply zI | apply zK); (· with_reducible assumption)) | ((first | apply zJ | apply zL); (· with_reducible assumption)) | fail)
      conv => whnf
      exact ⟨leA, _, rfl, rfl, h⟩
  | false =>
    by_cases he : g = b
    · have e : turnC f ⟨a, b, n, i, g, false⟩ = ⟨a, b, n, i, g, false⟩ := by unfold turnC tgt; rw [if_pos (by simpa using he)]
      rw [e] at h
      repeat' ((conv => whnf); first | ((first | (apply vB; (case h => with_reducible assumption)) | (apply vA; (case h => with_reducible assumption)) | (apply vC; (case h => with_reducible assumption)) | (apply vD; (case h => with_reducible assumption))); (case hk => exact kpA); (case he => omega)) | ((first | (apply vI; (case h => with_reducible assumption)) | (apply vG; (case h => with_reducible assumption)) | (apply vK; (case h => with_reducible assumption))); (case hk => exact kpA); (case he => omega); (case hp => omega); (case' g => intro hr_ hc_)) | ((first | (apply vJ; (case h => with_reducible assumption)) | (apply vH; (case h => with_reducible assumption)) | (apply vL; (case h => with_reducible assumption))); (case hk => exact kpA); (case he => omega); (case' g => intro hr_ hc_)) | apply yA | apply yB | ((first | apply zA | apply zC | apply zE | apply zG); (· with_reducible assumption)) | ((first | apply zB | apply zD | apply zF | apply zH); (· with_reducible assumption)) | apply zM | apply zN | apply zO | apply zP | apply zQ | apply zR | apply zS | apply zT | apply zU | (apply zV; (· omega)) | (apply zW; (· omega)) | (apply zX; (· (first | omega | (dsimp only; omega)))) | (apply zY; (try (apply zY; apply zX; (· omega))); apply zX; (· omega); apply zX; (· (first | omega | (dsimp only; omega)))) | ((first | apply yJ | apply yK | apply yL | apply yM | apply yN | apply yO); (· exact hgA); (· exact hsA)) | (apply yNP; (· exact hgA); (· exact hsA)) | ((first | apply zA | apply zC | apply zE | apply zG); (· omega)) | ((first | apply zB | apply zD | apply zF | apply zH); (· omega)) | ((first | apply zI | apply zK); (· with_reducible assumption)) | ((first | apply zJ | apply zL); (· with_reducible assumption)) | fail)
      conv => whnf
      exact ⟨leA, _, rfl, rfl, h⟩
    · have e : turnC f ⟨a, b, n, i, g, false⟩ = ⟨nowC ⟨a, b, n, i, g, false⟩, g, f, 0, g, false⟩ := by unfold turnC tgt; rw [if_neg (by simpa using he)]; rfl
      rw [e] at h
      repeat' ((conv => whnf); first | refine wnow_c (c := ⟨a, b, n, i, g, false⟩) hc ?_ | ((first | (apply vB; (case h => with_reducible assumption)) | (apply vA; (case h => with_reducible assumption)) | (apply vC; (case h => with_reducible assumption)) | (apply vD; (case h => with_reducible assumption))); (case hk => exact kpA); (case he => omega)) | ((first | (apply vI; (case h => with_reducible assumption)) | (apply vG; (case h => with_reducible assumption)) | (apply vK; (case h => with_reducible assumption))); (case hk => exact kpA); (case he => omega); (case hp => omega); (case' g => intro hr_ hc_)) | ((first | (apply vJ; (case h => with_reducible assumption)) | (apply vH; (case h => with_reducible assumption)) | (apply vL; (case h => with_reducible assumption))); (case hk => exact kpA); (case he => omega); (case' g => intro hr_ hc_)) | apply yA | apply yB | ((first | apply zA | apply zC | apply zE | apply zG); (· with_reducible assumption)) | ((first | apply zB | apply zD | apply zF | apply zH); (· with_reducible assumption)) | apply zM | apply zN | apply zO | apply zP | apply zQ | apply zR | apply zS | apply zT | apply zU | (apply zV; (· omega)) | (apply zW; (· omega)) | (apply zX; (· (first | omega | (dsimp only; omega)))) | (apply zY; (try (apply zY; apply zX; (· omega))); apply zX; (· omega); apply zX; (· (first | omega | (dsimp only; omega)))) | ((first | apply yJ | apply yK | apply yL | apply yM | apply yN | apply yO); (· exact hgA); (· exact hsA)) | (apply yNP; (· exact hgA); (· exact hsA)) | ((first | apply zA | apply zC | apply zE | apply zG); (· omega)) | ((first | apply zB | apply zD | apply zF | apply zH); (· omega)) | ((first | apply zI | apply zK); (· with_reducible assumption)) | ((first | apply zJ | apply zL); (· with_reducible assumption)) | fail)
      conv => whnf
      exact ⟨leA, _, rfl, rfl, h⟩
end Go.Abs
