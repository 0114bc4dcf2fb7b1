/- The program's Reader. No conditions beyond those stated. -/
import Derived.Test.YtpcnnioicfljfaaC10b
set_option linter.all false
set_option maxHeartbeats 2000000
set_option maxRecDepth 20000
namespace Go.Abs
open Go Go.Proofs

structure FS where
  S : MS
  sk : Int
  out : List Ev
def feedB (c : Int) (S : MS) (sk : Int) : MS × Int × Option Ev :=
  if (stepS c S).2.2 = true then (if 128 ≤ c ∧ c ≤ 240 then (begS c true, sk + pend S, none) else (⟨0, 0, S.sent, []⟩, sk + pend S + 1, none)) else ((stepS c S).1, sk, (stepS c S).2.1)
def feedN (s : ByteArray) (S : MS) (sk : Int) : Nat → FS
  | 0 => ⟨S, sk, []⟩
  | i + 1 => ⟨(feedB (sAt s i) (feedN s S sk i).S (feedN s S sk i).sk).1, (feedB (sAt s i) (feedN s S sk i).S (feedN s S sk i).sk).2.1, (feedN s S sk i).out ++ (feedB (sAt s i) (feedN s S sk i).S (feedN s S sk i).sk).2.2.toList⟩
theorem sAt_bd (s : ByteArray) (i : Nat) : 0 ≤ sAt s i ∧ sAt s i < 256 := by
  unfold sAt
  have := (s.data.toList.getD i 0).toNat_lt
  omega
theorem ok_fresh (b : Bool) : OkS ⟨0, 0, b, []⟩ := ⟨.inl rfl, .inl ⟨rfl, rfl⟩, fun x hx => absurd hx (by simp)⟩
theorem ok_feedB {c : Int} {S : MS} {sk : Int} (h : OkS S) (hc : 0 ≤ c ∧ c < 256) : OkS (feedB c S sk).1 ∧ sk ≤ (feedB c S sk).2.1 ∧ (feedB c S sk).2.1 ≤ sk + 202 := by
  have hp := pend_bd h
  unfold feedB
  split
  · split
    · rename_i h2
      refine ⟨?_, by dsimp only; omega, by dsimp only; omega⟩
      by_cases h3 : c = 240
      · exact ok_beg (.inr ⟨h3, rfl⟩)
      · exact ok_beg (.inl (by omega))
    · exact ⟨ok_fresh _, by dsimp only; omega, by dsimp only; omega⟩
  · exact ⟨ok_step h hc, by dsimp only; omega, by dsimp only; omega⟩
theorem ok_feedN {s : ByteArray} {S : MS} {sk : Int} (h : OkS S) : ∀ i : Nat, OkS (feedN s S sk i).S ∧ sk ≤ (feedN s S sk i).sk ∧ (feedN s S sk i).sk ≤ sk + 202 * i
  | 0 => ⟨h, by simp [feedN], by simp [feedN]⟩
  | i + 1 => by
    obtain ⟨h1, h2, h3⟩ := ok_feedN (sk := sk) h i
    obtain ⟨g1, g2, g3⟩ := ok_feedB (sk := (feedN s S sk i).sk) h1 (sAt_bd s i)
    exact ⟨g1, by show sk ≤ (feedB _ _ _).2.1; omega, by show (feedB _ _ _).2.1 ≤ _; omega⟩
theorem feed_len (s : ByteArray) (S : MS) (sk : Int) : ∀ i : Nat, (feedN s S sk i).out.length ≤ i
  | 0 => by simp [feedN]
  | i + 1 => by
    have h := feed_len s S sk i
    show ((feedN s S sk i).out ++ (feedB (sAt s i) (feedN s S sk i).S (feedN s S sk i).sk).2.2.toList).length ≤ i + 1
    rw [List.length_append]
    cases (feedB (sAt s i) (feedN s S sk i).S (feedN s S sk i).sk).2.2 <;> simp <;> omega
/-! events in memory -/
def flatEv (fr : Int) : List Ev → List Value
  | [] => []
  | e :: es => evL fr e ++ flatEv fr es
theorem flatEv_app (fr : Int) : ∀ a b : List Ev, flatEv fr (a ++ b) = flatEv fr a ++ flatEv fr b
  | [], b => rfl
  | e :: es, b => by simp [flatEv, flatEv_app fr es b]
theorem flatEv_one (fr : Int) (e : Ev) : flatEv fr [e] = evL fr e := by simp [flatEv]
theorem flatEv_len (fr : Int) : ∀ es : List Ev, (flatEv fr es).length = es.length * 6
  | [] => rfl
  | e :: es => by simp [flatEv, evL, flatEv_len fr es]; omega
def OEv (H : AHeap) (base : Nat) (v : Value) (fr : Int) (es : List Ev) : Prop :=
  (v = .slice none 0 0 ∧ es = []) ∨ ∃ o, v = .slice (some ⟨o, 0, none⟩) es.length es.length ∧ H.get o = some (.cells (flatEv fr es) true 6) ∧ base ≤ o ∧ o < H.size
theorem own_ev {H : AHeap} {o upto : Nat} {fr : Int} {es : List Ev} {p : Prop} (g : H.get o = some (.cells (flatEv fr es) true 6)) (hu : upto = es.length * 6) (hp : p) : ownK H o 6 upto p := ownK_of g (by rw [flatEv_len]; omega) hp
theorem lds_ev {H : AHeap} {o off n : Nat} {fr : Int} {es : List Ev} {K : List Value → Prop} (g : H.get o = some (.cells (flatEv fr es) true 6)) (h0 : off = 0) (hn : n = es.length * 6) (hK : K (flatEv fr es)) : loadsK H o off n K := by
  subst h0
  exact loadsK_all g (by rw [flatEv_len]; exact hn) hK
theorem part_ne {H : AHeap} {mb po o : Nat} {br : Bool} {pv : Value} {S : MS} {rest : List Value} {c : List Value} (h : MachP H mb po br pv S rest) (hm : o ≠ mb) (g : H.get o = some (.cells c true 6)) : o ≠ po := fun e => by
  rcases h.pt with ⟨_, _, rfl⟩ | ⟨_, gp, _, _⟩
  · exact hm e
  · rw [e] at g
    rw [g] at gp
    cases gp
section
variable {mb po : Nat} {br : Bool} {pv : Value} {S : MS} {H : AHeap} {K : CK}
theorem stepW {c : Int} {S : MS} (h : (stepS c S).2.2 = true) : (stepS c S).1 = S := by
  unfold stepS at h ⊢
  split at h
  · cases h
  · rename_i h1
    rw [if_neg h1]
    split at h
    · rename_i h2
      rw [if_pos h2]
      split at h
      · cases h
      · rename_i h3
        rw [if_neg h3]
        split at h
        · rename_i h4
          rw [if_pos h4]
        · cases h
    · rename_i h2
      rw [if_neg h2]
      split at h
      · cases h
      · rename_i h3
        rw [if_neg h3]
        split at h
        · rename_i h4
          rw [if_pos h4]
        · rw [pushD_w] at h
          cases h
theorem stepWo {c : Int} {S : MS} (h : (stepS c S).2.2 = true) : (stepS c S).2.1 = none := by
  unfold stepS at h ⊢
  split at h
  · cases h
  · rename_i h1
    rw [if_neg h1]
    split at h
    · rename_i h2
      rw [if_pos h2]
      split at h
      · cases h
      · rename_i h3
        rw [if_neg h3]
        split at h
        · rename_i h4
          rw [if_pos h4]
        · cases h
    · rename_i h2
      rw [if_neg h2]
      split at h
      · cases h
      · rename_i h3
        rw [if_neg h3]
        split at h
        · rename_i h4
          rw [if_pos h4]
        · rw [pushD_w] at h
          cases h
theorem take_v {rest : List Value} {c : Int} {S' : MS} {o : Option Ev} {w : Bool} (he : stepS c S = (S', o, w)) (hM : MachP H mb po br pv S rest) (hok : OkS S) (hc : 0 ≤ c ∧ c < 256) (h : ∀ H' po' br' pv', MFr H H' mb po po' → MachP H' mb po' br' pv' S' rest →
    K (.returned (.tuple #[.agg ⟨evL 0 (evO o)⟩, .bool o.isSome, .bool (!w)])) H') : callS P (fnV 20) [.pointer (some ⟨mb, 0, none⟩), .int .u8 c] H K :=
  take_c hM hok hc (by rw [he]; exact h)
theorem newReader_c (h : ∀ H', H.le H' → H'.size = H.size + 1 → MachP H' H.size H.size false (.slice none 0 0) ⟨0, 0, false, []⟩ [iv 0, iv 0] → K (.returned (.pointer (some ⟨H.size, 0, none⟩))) H') : callS P (fnV 6) [] H K := by
  refine callS_walk tt_ok Try.func6 rfl (by kernel_rfl) ?_
  conv => whnf
  repeat' ((conv => whnf); first | apply yA | apply yB | ((first | apply zA | apply zC | apply zE | apply zG); (· with_reducible assumption)) | ((first | apply zB | apply zD | apply zF | apply zH); (· with_reducible assumption)) | apply zM | apply zN | apply zO | apply zP | apply zQ | apply zR | apply zS | apply zT | apply zU | (apply zV; (· omega)) | (apply zW; (· omega)) | (apply zX; (· (first | omega | (dsimp only; omega)))) | (apply zY; (try (apply zY; apply zX; (· omega))); apply zX; (· omega); apply zX; (· (first | omega | (dsimp only; omega)))) | ((first | apply yJ | apply yK | apply yL | apply yM | apply yN | apply yO); (· exact hgA); (· exact hsA)) | (apply yNP; (· exact hgA); (· exact hsA)) | ((first | apply zA | apply zC | apply zE | apply zG); (· omega)) | ((first | apply zB | apply zD | apply zF | apply zH); (· omega)) | ((first | apply zI | apply zK); (· with_reducible assumption)) | ((first | apply zJ | apply zL); (· with_reducible assumption)) | fail)
  conv => whnf
  exact h _ leA rfl ⟨hgA, hoA, fun h1 _ => absurd rfl h1, .inl ⟨rfl, rfl, rfl⟩⟩
theorem pendR_c {f sk : Int} (hM : MachP H mb po br pv S [iv f, iv sk]) (hok : OkS S) (h : K (.returned (iv (pend S))) H) : callS P (fnV 11) [.pointer (some ⟨mb, 0, none⟩)] H K := by
  refine callS_walk tt_ok Try.func11 rfl (by kernel_rfl) ?_
  conv => whnf
  repeat' ((conv => whnf); first | refine pending_c hM hok ?_ | apply yA | apply yB | ((first | apply zA | apply zC | apply zE | apply zG); (· with_reducible assumption)) | ((first | apply zB | apply zD | apply zF | apply zH); (· with_reducible assumption)) | apply zM | apply zN | apply zO | apply zP | apply zQ | apply zR | apply zS | apply zT | apply zU | (apply zV; (· omega)) | (apply zW; (· omega)) | (apply zX; (· (first | omega | (dsimp only; omega)))) | (apply zY; (try (apply zY; apply zX; (· omega))); apply zX; (· omega); apply zX; (· (first | omega | (dsimp only; omega)))) | ((first | apply zA | apply zC | apply zE | apply zG); (· omega)) | ((first | apply zB | apply zD | apply zF | apply zH); (· omega)) | ((first | apply zI | apply zK); (· with_reducible assumption)) | ((first | apply zJ | apply zL); (· with_reducible assumption)) | fail)
  conv => whnf
  exact h
theorem pendR_nil (h : K (.returned (iv 0)) H) : callS P (fnV 11) [.pointer none] H K := by
  refine callS_walk tt_ok Try.func11 rfl (by kernel_rfl) ?_
  conv => whnf
  repeat' ((conv => whnf); first | apply yA | apply yB | ((first | apply zA | apply zC | apply zE | apply zG); (· with_reducible assumption)) | ((first | apply zB | apply zD | apply zF | apply zH); (· with_reducible assumption)) | apply zM | apply zN | apply zO | apply zP | apply zQ | apply zR | apply zS | apply zT | apply zU | (apply zV; (· omega)) | (apply zW; (· omega)) | (apply zX; (· (first | omega | (dsimp only; omega)))) | (apply zY; (try (apply zY; apply zX; (· omega))); apply zX; (· omega); apply zX; (· (first | omega | (dsimp only; omega)))) | ((first | apply zA | apply zC | apply zE | apply zG); (· omega)) | ((first | apply zB | apply zD | apply zF | apply zH); (· omega)) | ((first | apply zI | apply zK); (· with_reducible assumption)) | ((first | apply zJ | apply zL); (· with_reducible assumption)) | fail)
  conv => whnf
  exact h
theorem skipR_c {f sk : Int} (hM : MachP H mb po br pv S [iv f, iv sk]) (h : K (.returned (iv sk)) H) : callS P (fnV 13) [.pointer (some ⟨mb, 0, none⟩)] H K := by
  have g := hM.g
  refine callS_walk tt_ok Try.func13 rfl (by kernel_rfl) ?_
  conv => whnf
  repeat' ((conv => whnf); first | ((first | (apply vB; (case h => with_reducible assumption)) | (apply vA; (case h => with_reducible assumption)) | (apply vC; (case h => with_reducible assumption))); (case hk => exact kpA); (case he => omega)) | ((first | (apply vI; (case h => with_reducible assumption)) | (apply vG; (case h => with_reducible assumption)) | (apply vK; (case h => with_reducible assumption))); (case hk => exact kpA); (case he => omega); (case hp => omega); (case' g => intro hr_ hc_)) | ((first | (apply vJ; (case h => with_reducible assumption)) | (apply vH; (case h => with_reducible assumption)) | (apply vL; (case h => with_reducible assumption))); (case hk => exact kpA); (case he => omega); (case' g => intro hr_ hc_)) | apply yA | apply yB | ((first | apply zA | apply zC | apply zE | apply zG); (· with_reducible assumption)) | ((first | apply zB | apply zD | apply zF | apply zH); (· with_reducible assumption)) | apply zM | apply zN | apply zO | apply zP | apply zQ | apply zR | apply zS | apply zT | apply zU | (apply zV; (· omega)) | (apply zW; (· omega)) | (apply zX; (· (first | omega | (dsimp only; omega)))) | (apply zY; (try (apply zY; apply zX; (· omega))); apply zX; (· omega); apply zX; (· (first | omega | (dsimp only; omega)))) | ((first | apply yJ | apply yK | apply yL | apply yM | apply yN | apply yO); (· exact hgA); (· exact hsA)) | (apply yNP; (· exact hgA); (· exact hsA)) | ((first | apply zA | apply zC | apply zE | apply zG); (· omega)) | ((first | apply zB | apply zD | apply zF | apply zH); (· omega)) | ((first | apply zI | apply zK); (· with_reducible assumption)) | ((first | apply zJ | apply zL); (· with_reducible assumption)) | fail)
  conv => whnf
  exact h
theorem skipR_nil (h : K (.returned (iv 0)) H) : callS P (fnV 13) [.pointer none] H K := by
  refine callS_walk tt_ok Try.func13 rfl (by kernel_rfl) ?_
  conv => whnf
  repeat' ((conv => whnf); first | ((first | (apply vB; (case h => with_reducible assumption)) | (apply vA; (case h => with_reducible assumption)) | (apply vC; (case h => with_reducible assumption))); (case hk => exact kpA); (case he => omega)) | ((first | (apply vI; (case h => with_reducible assumption)) | (apply vG; (case h => with_reducible assumption)) | (apply vK; (case h => with_reducible assumption))); (case hk => exact kpA); (case he => omega); (case hp => omega); (case' g => intro hr_ hc_)) | ((first | (apply vJ; (case h => with_reducible assumption)) | (apply vH; (case h => with_reducible assumption)) | (apply vL; (case h => with_reducible assumption))); (case hk => exact kpA); (case he => omega); (case' g => intro hr_ hc_)) | apply yA | apply yB | ((first | apply zA | apply zC | apply zE | apply zG); (· with_reducible assumption)) | ((first | apply zB | apply zD | apply zF | apply zH); (· with_reducible assumption)) | apply zM | apply zN | apply zO | apply zP | apply zQ | apply zR | apply zS | apply zT | apply zU | (apply zV; (· omega)) | (apply zW; (· omega)) | (apply zX; (· (first | omega | (dsimp only; omega)))) | (apply zY; (try (apply zY; apply zX; (· omega))); apply zX; (· omega); apply zX; (· (first | omega | (dsimp only; omega)))) | ((first | apply yJ | apply yK | apply yL | apply yM | apply yN | apply yO); (· exact hgA); (· exact hsA)) | (apply yNP; (· exact hgA); (· exact hsA)) | ((first | apply zA | apply zC | apply zE | apply zG); (· omega)) | ((first | apply zB | apply zD | apply zF | apply zH); (· omega)) | ((first | apply zI | apply zK); (· with_reducible assumption)) | ((first | apply zJ | apply zL); (· with_reducible assumption)) | fail)
  conv => whnf
  exact h
theorem feed_nil {s : ByteArray} (h : K (.returned (.tuple #[.slice none 0 0, iv 1])) H) : callS P (fnV 8) [.pointer none, iv 0, .string s] H K := by
  refine callS_walk tt_ok Try.func8 rfl (by kernel_rfl) ?_
  conv => whnf
  repeat' ((conv => whnf); first | ((first | (apply vB; (case h => with_reducible assumption)) | (apply vA; (case h => with_reducible assumption)) | (apply vC; (case h => with_reducible assumption))); (case hk => exact kpA); (case he => omega)) | ((first | (apply vI; (case h => with_reducible assumption)) | (apply vG; (case h => with_reducible assumption)) | (apply vK; (case h => with_reducible assumption))); (case hk => exact kpA); (case he => omega); (case hp => omega); (case' g => intro hr_ hc_)) | ((first | (apply vJ; (case h => with_reducible assumption)) | (apply vH; (case h => with_reducible assumption)) | (apply vL; (case h => with_reducible assumption))); (case hk => exact kpA); (case he => omega); (case' g => intro hr_ hc_)) | (apply drawS_auto mixed tt_ok; (· kernel_rfl)) | apply zZ | apply yA | apply yB | ((first | apply zA | apply zC | apply zE | apply zG); (· with_reducible assumption)) | ((first | apply zB | apply zD | apply zF | apply zH); (· with_reducible assumption)) | apply zM | apply zN | apply zO | apply zP | apply zQ | apply zR | apply zS | apply zT | apply zU | (apply zV; (· omega)) | (apply zW; (· omega)) | (apply zX; (· (first | omega | (dsimp only; omega)))) | (apply zY; (try (apply zY; apply zX; (· omega))); apply zX; (· omega); apply zX; (· (first | omega | (dsimp only; omega)))) | ((first | apply yJ | apply yK | apply yL | apply yM | apply yN | apply yO); (· exact hgA); (· exact hsA)) | (apply yNP; (· exact hgA); (· exact hsA)) | ((first | apply zA | apply zC | apply zE | apply zG); (· omega)) | ((first | apply zB | apply zD | apply zF | apply zH); (· omega)) | ((first | apply zI | apply zK); (· with_reducible assumption)) | ((first | apply zJ | apply zL); (· with_reducible assumption)) | fail)
  conv => whnf
  exact h
theorem feed_err {s : ByteArray} {f fr sk : Int} (hM : MachP H mb po br pv S [iv f, iv sk]) (hs : s.size ≤ 65536) (hf : fr < f ∨ 1000000000 < fr) (h : K (.returned (.tuple #[.slice none 0 0, iv 7])) H) : callS P (fnV 8) [.pointer (some ⟨mb, 0, none⟩), iv fr, .string s] H K := by
  have g := hM.g
  by_cases h1 : fr < f
  · skip
    refine callS_walk tt_ok Try.func8 rfl (by kernel_rfl) ?_
    conv => whnf
    repeat' ((conv => whnf); first | ((first | (apply vB; (case h => with_reducible assumption)) | (apply vA; (case h => with_reducible assumption)) | (apply vC; (case h => with_reducible assumption))); (case hk => exact kpA); (case he => omega)) | ((first | (apply vI; (case h => with_reducible assumption)) | (apply vG; (case h => with_reducible assumption)) | (apply vK; (case h => with_reducible assumption))); (case hk => exact kpA); (case he => omega); (case hp => omega); (case' g => intro hr_ hc_)) | ((first | (apply vJ; (case h => with_reducible assumption)) | (apply vH; (case h => with_reducible assumption)) | (apply vL; (case h => with_reducible assumption))); (case hk => exact kpA); (case he => omega); (case' g => intro hr_ hc_)) | (apply drawS_auto mixed tt_ok; (· kernel_rfl)) | apply zZ | apply yA | apply yB | ((first | apply zA | apply zC | apply zE | apply zG); (· with_reducible assumption)) | ((first | apply zB | apply zD | apply zF | apply zH); (· with_reducible assumption)) | apply zM | apply zN | apply zO | apply zP | apply zQ | apply zR | apply zS | apply zT | apply zU | (apply zV; (· omega)) | (apply zW; (· omega)) | (apply zX; (· (first | omega | (dsimp only; omega)))) | (apply zY; (try (apply zY; apply zX; (· omega))); apply zX; (· omega); apply zX; (· (first | omega | (dsimp only; omega)))) | ((first | apply yJ | apply yK | apply yL | apply yM | apply yN | apply yO); (· exact hgA); (· exact hsA)) | (apply yNP; (· exact hgA); (· exact hsA)) | ((first | apply zA | apply zC | apply zE | apply zG); (· omega)) | ((first | apply zB | apply zD | apply zF | apply zH); (· omega)) | ((first | apply zI | apply zK); (· with_reducible assumption)) | ((first | apply zJ | apply zL); (· with_reducible assumption)) | fail)
    conv => whnf
    exact h
  · skip
    refine callS_walk tt_ok Try.func8 rfl (by kernel_rfl) ?_
    conv => whnf
    repeat' ((conv => whnf); first | ((first | (apply vB; (case h => with_reducible assumption)) | (apply vA; (case h => with_reducible assumption)) | (apply vC; (case h => with_reducible assumption))); (case hk => exact kpA); (case he => omega)) | ((first | (apply vI; (case h => with_reducible assumption)) | (apply vG; (case h => with_reducible assumption)) | (apply vK; (case h => with_reducible assumption))); (case hk => exact kpA); (case he => omega); (case hp => omega); (case' g => intro hr_ hc_)) | ((first | (apply vJ; (case h => with_reducible assumption)) | (apply vH; (case h => with_reducible assumption)) | (apply vL; (case h => with_reducible assumption))); (case hk => exact kpA); (case he => omega); (case' g => intro hr_ hc_)) | (apply drawS_auto mixed tt_ok; (· kernel_rfl)) | apply zZ | apply yA | apply yB | ((first | apply zA | apply zC | apply zE | apply zG); (· with_reducible assumption)) | ((first | apply zB | apply zD | apply zF | apply zH); (· with_reducible assumption)) | apply zM | apply zN | apply zO | apply zP | apply zQ | apply zR | apply zS | apply zT | apply zU | (apply zV; (· omega)) | (apply zW; (· omega)) | (apply zX; (· (first | omega | (dsimp only; omega)))) | (apply zY; (try (apply zY; apply zX; (· omega))); apply zX; (· omega); apply zX; (· (first | omega | (dsimp only; omega)))) | ((first | apply yJ | apply yK | apply yL | apply yM | apply yN | apply yO); (· exact hgA); (· exact hsA)) | (apply yNP; (· exact hgA); (· exact hsA)) | ((first | apply zA | apply zC | apply zE | apply zG); (· omega)) | ((first | apply zB | apply zD | apply zF | apply zH); (· omega)) | ((first | apply zI | apply zK); (· with_reducible assumption)) | ((first | apply zJ | apply zL); (· with_reducible assumption)) | fail)
    conv => whnf
    exact h
theorem feed_bad {s : ByteArray} {f fr sk ec : Int} (hM : MachP H mb po br pv S [iv f, iv sk]) (hf : (65536 < s.size ∧ ec = 3) ∨ (s.size ≤ 65536 ∧ (fr < f ∨ 1000000000 < fr) ∧ ec = 7)) (h : K (.returned (.tuple #[.slice none 0 0, iv ec])) H) : callS P (fnV 8) [.pointer (some ⟨mb, 0, none⟩), iv fr, .string s] H K := by
  rcases hf with ⟨hs, rfl⟩ | ⟨hs, hf, rfl⟩
  · skip
    refine callS_walk tt_ok Try.func8 rfl (by kernel_rfl) ?_
    conv => whnf
    repeat' ((conv => whnf); first | ((first | (apply vB; (case h => with_reducible assumption)) | (apply vA; (case h => with_reducible assumption)) | (apply vC; (case h => with_reducible assumption))); (case hk => exact kpA); (case he => omega)) | ((first | (apply vI; (case h => with_reducible assumption)) | (apply vG; (case h => with_reducible assumption)) | (apply vK; (case h => with_reducible assumption))); (case hk => exact kpA); (case he => omega); (case hp => omega); (case' g => intro hr_ hc_)) | ((first | (apply vJ; (case h => with_reducible assumption)) | (apply vH; (case h => with_reducible assumption)) | (apply vL; (case h => with_reducible assumption))); (case hk => exact kpA); (case he => omega); (case' g => intro hr_ hc_)) | (apply drawS_auto mixed tt_ok; (· kernel_rfl)) | apply zZ | apply yA | apply yB | ((first | apply zA | apply zC | apply zE | apply zG); (· with_reducible assumption)) | ((first | apply zB | apply zD | apply zF | apply zH); (· with_reducible assumption)) | apply zM | apply zN | apply zO | apply zP | apply zQ | apply zR | apply zS | apply zT | apply zU | (apply zV; (· omega)) | (apply zW; (· omega)) | (apply zX; (· (first | omega | (dsimp only; omega)))) | (apply zY; (try (apply zY; apply zX; (· omega))); apply zX; (· omega); apply zX; (· (first | omega | (dsimp only; omega)))) | ((first | apply yJ | apply yK | apply yL | apply yM | apply yN | apply yO); (· exact hgA); (· exact hsA)) | (apply yNP; (· exact hgA); (· exact hsA)) | ((first | apply zA | apply zC | apply zE | apply zG); (· omega)) | ((first | apply zB | apply zD | apply zF | apply zH); (· omega)) | ((first | apply zI | apply zK); (· with_reducible assumption)) | ((first | apply zJ | apply zL); (· with_reducible assumption)) | fail)
    conv => whnf
    exact h
  · exact feed_err hM hs hf h
structure RSt where
  i : Nat
  H : AHeap
  po : Nat
  br : Bool
  pv : Value
  v : Value
structure RInv (H : AHeap) (mb po0 : Nat) (s : ByteArray) (S : MS) (sk fr : Int) (r : RSt) : Prop where
  le : r.i ≤ s.size
  mfr : MFr H r.H mb po0 r.po
  m : MachP r.H mb r.po r.br r.pv (feedN s S sk r.i).S [iv fr, iv (feedN s S sk r.i).sk]
  o : OEv r.H H.size r.v fr (feedN s S sk r.i).out
theorem MFr.trans {H H1 H2 : AHeap} {mb a b c : Nat} (h : MFr H H1 mb a b) (g : MFr H1 H2 mb b c) (hmb : mb < H.size) (ha : a < H.size) : MFr H H2 mb a c where
  size := Nat.le_trans h.size g.size
  get j h1 h2 h3 := (g.get j (Nat.lt_of_lt_of_le h1 h.size) h2 (by have := h.po; omega)).trans (h.get j h1 h2 h3)
  po := by have := h.po; have := g.po; have := h.size; omega
structure MFrX (H H' : AHeap) (mb po po' o : Nat) : Prop where
  size : H.size ≤ H'.size
  get : ∀ j, j < H.size → j ≠ mb → j ≠ po → j ≠ o → H'.get j = H.get j
  po : po' = po ∨ po' = mb ∨ H.size ≤ po'
theorem MFr.trans_x {H H1 H2 : AHeap} {mb a b c o : Nat} (h : MFr H H1 mb a b) (g : MFrX H1 H2 mb b c o) (hmb : mb < H.size) (ha : a < H.size) (ho : H.size ≤ o) : MFr H H2 mb a c where
  size := Nat.le_trans h.size g.size
  get j h1 h2 h3 := (g.get j (Nat.lt_of_lt_of_le h1 h.size) h2 (by have := h.po; omega) (by omega)).trans (h.get j h1 h2 h3)
  po := by have := h.po; have := g.po; have := h.size; omega
theorem ov_keep {H H1 : AHeap} {base p1 : Nat} {v : Value} {fr : Int} {es : List Ev} (h : OEv H base v fr es) (hne : ∀ o, v = .slice (some ⟨o, 0, none⟩) es.length es.length → H.get o = some (.cells (flatEv fr es) true 6) → base ≤ o → o ≠ p1) (hm : mb < base) (hg : ∀ j, j < H.size → j ≠ mb → j ≠ p1 → H1.get j = H.get j) (hs : H.size ≤ H1.size) : OEv H1 base v fr es := by
  rcases h with h | ⟨o, h1, h2, h3, h4⟩
  · exact .inl h
  · exact .inr ⟨o, h1, (hg o h4 (by omega) (hne o h1 h2 h3)).trans h2, h3, Nat.lt_of_lt_of_le h4 hs⟩
theorem feed_c {s : ByteArray} {f fr sk : Int} (hM : MachP H mb po br pv S [iv f, iv sk]) (hok : OkS S) (hs : s.size ≤ 65536) (hf : f ≤ fr ∧ fr ≤ 1000000000) (hsk : 0 ≤ sk ∧ sk ≤ 4000000000)
    (h : ∀ H' po' br' pv' v, MFr H H' mb po po' → MachP H' mb po' br' pv' (feedN s S sk s.size).S [iv fr, iv (feedN s S sk s.size).sk] → OEv H' H.size v fr (feedN s S sk s.size).out → K (.returned (.tuple #[v, iv 0])) H') :
    callS P (fnV 8) [.pointer (some ⟨mb, 0, none⟩), iv fr, .string s] H K := by
  have g := hM.g
  have hlt := hM.lt
  have hpo := hM.plt
  refine callS_walk tt_ok Try.func8 rfl (by kernel_rfl) ?_
  conv => whnf
  repeat' ((conv => whnf); first | ((first | (apply vB; (case h => with_reducible assumption)) | (apply vA; (case h => with_reducible assumption)) | (apply vC; (case h => with_reducible assumption))); (case hk => exact kpA); (case he => omega)) | ((first | (apply vI; (case h => with_reducible assumption)) | (apply vG; (case h => with_reducible assumption)) | (apply vK; (case h => with_reducible assumption))); (case hk => exact kpA); (case he => omega); (case hp => omega); (case' g => intro hr_ hc_)) | ((first | (apply vJ; (case h => with_reducible assumption)) | (apply vH; (case h => with_reducible assumption)) | (apply vL; (case h => with_reducible assumption))); (case hk => exact kpA); (case he => omega); (case' g => intro hr_ hc_)) | (apply drawS_auto mixed tt_ok; (· kernel_rfl)) | apply zZ | apply yA | apply yB | ((first | apply zA | apply zC | apply zE | apply zG); (· with_reducible assumption)) | ((first | apply zB | apply zD | apply zF | apply zH); (· with_reducible assumption)) | apply zM | apply zN | apply zO | apply zP | apply zQ | apply zR | apply zS | apply zT | apply zU | (apply zV; (· omega)) | (apply zW; (· omega)) | (apply zX; (· (first | omega | (dsimp only; omega)))) | (apply zY; (try (apply zY; apply zX; (· omega))); apply zX; (· omega); apply zX; (· (first | omega | (dsimp only; omega)))) | ((first | apply yJ | apply yK | apply yL | apply yM | apply yN | apply yO); (· exact hgA); (· exact hsA)) | (apply yNP; (· exact hgA); (· exact hsA)) | ((first | apply zA | apply zC | apply zE | apply zG); (· omega)) | ((first | apply zB | apply zD | apply zF | apply zH); (· omega)) | ((first | apply zI | apply zK); (· with_reducible assumption)) | ((first | apply zJ | apply zL); (· with_reducible assumption)) | fail)
  conv => whnf
  refine loopS_gen (fun H0 hH0 => ?_)
  have hz0 : H0.size = H.size := by rw [hH0]; rfl
  have hg0 : ∀ j, j ≠ mb → H0.get j = H.get j := fun j hj => by rw [hH0]; exact AHeap.set_ne _ _ hj
  have hM0 : MachP H0 mb po br pv S [iv fr, iv sk] := ⟨by rw [hH0]; exact (AHeap.set_same _ _ _), by omega, hM.bare, hM.pt.imp id fun ⟨h1, h2, h3, h4⟩ => ⟨h1, (hg0 _ h4.1).trans h2, by omega, h4⟩⟩
  have hf0 : MFr H H0 mb po po := ⟨by omega, fun j _ h2 _ => hg0 j h2, .inl rfl⟩
  clear hH0
  refine loopS_mask tt_ok (fun (r : RSt) => [.k, .k, .k, .w, .w, .w, .w, .w, .p (r.v), .w, .w, .w, .w, .w, .w, .w, .w, .w, .w, .w, .w, .w, .w, .w, .w, .w, .w, .w, .w, .w, .w, .w, .w, .w, .w, .w, .k, .p (iv r.i), .w, .w, .w, .w, .w, .w, .w, .w, .w, .w, .w, .w, .w, .w, .w, .w, .w, .w, .w, .w, .w, .w, .w, .w, .w, .w, .w, .w, .w, .w, .w, .w, .w, .w, .w, .w, .w, .w, .w, .w, .w, .w, .w, .w, .w, .w, .w, .w, .w, .w, .w, .w, .w, .w, .w, .w]) (fun (r : RSt) => r.H) (fun (r : RSt) => RInv H mb po s S sk fr r) (fun (r : RSt) => s.size - r.i) (⟨0, H0, po, br, pv, .slice none 0 0⟩) (⟨Nat.zero_le _, hf0, hM0, .inl ⟨rfl, rfl⟩⟩) ?_ (fun r hr => ?_)
  · conv => whnf
    refine weakH_of (HW.refl _) ?_
    repeat' (first | exact WT.nil | refine WT.same ?_ | refine WT.drop ?_ | refine WT.int (by omega) ?_ | refine WT.eq (by assumption) ?_ | refine WT.bl (by first | assumption | (symm; assumption)) ?_ | refine WT.vv (by assumption) ?_)
  obtain ⟨i, HH, p1, br1, pv1, v⟩ := r
  obtain ⟨hi, hfr1, hM1, hov⟩ := hr
  dsimp only at hi hfr1 hM1 hov ⊢
  obtain ⟨hok1, hk1, hk2⟩ := ok_feedN (s := s) (sk := sk) hok i
  have holn := feed_len s S sk i
  have hlt1 := hM1.lt
  have hp1 := hM1.plt
  have hz1 := hfr1.size
  have hmbH := hM.lt
  by_cases hin : i < s.size
  · have hcb := sAt_bd s i
    have hcb2 : 0 ≤ sAt s ((i : Int).toNat) ∧ sAt s ((i : Int).toNat) < 256 := by rw [Int.toNat_natCast]; exact hcb
    have efeed : feedN s S sk (i + 1) = ⟨(feedB (sAt s i) (feedN s S sk i).S (feedN s S sk i).sk).1, (feedB (sAt s i) (feedN s S sk i).S (feedN s S sk i).sk).2.1, (feedN s S sk i).out ++ (feedB (sAt s i) (feedN s S sk i).S (feedN s S sk i).sk).2.2.toList⟩ := rfl
    generalize hSi : (feedN s S sk i).S = Si at *
    generalize hki : (feedN s S sk i).sk = ki at *
    generalize hoi : (feedN s S sk i).out = oi at *
    rcases hst : stepS (sAt s i) Si with ⟨S2, o2, w2⟩
    have hst2 : stepS (sAt s ((i : Int).toNat)) Si = (S2, o2, w2) := by rw [Int.toNat_natCast]; exact hst
    have hokS2 : OkS S2 := by have := ok_step hok1 hcb; rw [hst] at this; exact this
    have hov2 : ∀ o, v = .slice (some ⟨o, 0, none⟩) oi.length oi.length → HH.get o = some (.cells (flatEv fr oi) true 6) → H.size ≤ o → o ≠ p1 := fun o _ g1 h1 => part_ne hM1 (by omega) g1
    cases w2 with
    | false =>
      have ef : feedB (sAt s i) Si ki = (S2, ki, o2) := by unfold feedB; rw [hst]; rfl
      rw [ef] at efeed
      cases o2 with
      | none =>
        have efo : feedN s S sk (i + 1) = ⟨S2, ki, oi⟩ := by rw [efeed]; simp
        repeat' ((conv => whnf); first | ((first | (apply vB; (case h => with_reducible assumption)) | (apply vA; (case h => with_reducible assumption)) | (apply vC; (case h => with_reducible assumption))); (case hk => exact kpA); (case he => omega)) | ((first | (apply vI; (case h => with_reducible assumption)) | (apply vG; (case h => with_reducible assumption)) | (apply vK; (case h => with_reducible assumption))); (case hk => exact kpA); (case he => omega); (case hp => omega); (case' g => intro hr_ hc_)) | ((first | (apply vJ; (case h => with_reducible assumption)) | (apply vH; (case h => with_reducible assumption)) | (apply vL; (case h => with_reducible assumption))); (case hk => exact kpA); (case he => omega); (case' g => intro hr_ hc_)) | (apply drawS_auto mixed tt_ok; (· kernel_rfl)) | apply zZ | apply yA | apply yB | ((first | apply zA | apply zC | apply zE | apply zG); (· with_reducible assumption)) | ((first | apply zB | apply zD | apply zF | apply zH); (· with_reducible assumption)) | apply zM | apply zN | apply zO | apply zP | apply zQ | apply zR | apply zS | apply zT | apply zU | (apply zV; (· omega)) | (apply zW; (· omega)) | (apply zX; (· (first | omega | (dsimp only; omega)))) | (apply zY; (try (apply zY; apply zX; (· omega))); apply zX; (· omega); apply zX; (· (first | omega | (dsimp only; omega)))) | ((first | apply yJ | apply yK | apply yL | apply yM | apply yN | apply yO); (· exact hgA); (· exact hsA)) | (apply yNP; (· exact hgA); (· exact hsA)) | ((first | apply zA | apply zC | apply zE | apply zG); (· omega)) | ((first | apply zB | apply zD | apply zF | apply zH); (· omega)) | ((first | apply zI | apply zK); (· with_reducible assumption)) | ((first | apply zJ | apply zL); (· with_reducible assumption)) | fail)
        conv => whnf
        refine ⟨?_, ?_⟩
        · skip
          repeat' ((conv => whnf); first | refine take_v hst2 hM1 hok1 hcb2 (fun H2 p2 br2 pv2 hf2 hM2 => ?_); (have hp2 : p2 = p1 ∨ p2 = mb ∨ HH.size ≤ p2 := by have hq := hf2.po; first | omega | (simp at hq; omega)); (have hz2 : HH.size ≤ H2.size := hf2.size); (have hlt2 := hM2.lt); (have hpl2 := hM2.plt) | ((first | (apply vB; (case h => with_reducible assumption)) | (apply vA; (case h => with_reducible assumption)) | (apply vC; (case h => with_reducible assumption))); (case hk => exact kpA); (case he => omega)) | ((first | (apply vI; (case h => with_reducible assumption)) | (apply vG; (case h => with_reducible assumption)) | (apply vK; (case h => with_reducible assumption))); (case hk => exact kpA); (case he => omega); (case hp => omega); (case' g => intro hr_ hc_)) | ((first | (apply vJ; (case h => with_reducible assumption)) | (apply vH; (case h => with_reducible assumption)) | (apply vL; (case h => with_reducible assumption))); (case hk => exact kpA); (case he => omega); (case' g => intro hr_ hc_)) | (apply drawS_auto mixed tt_ok; (· kernel_rfl)) | apply zZ | apply yA | apply yB | ((first | apply zA | apply zC | apply zE | apply zG); (· with_reducible assumption)) | ((first | apply zB | apply zD | apply zF | apply zH); (· with_reducible assumption)) | apply zM | apply zN | apply zO | apply zP | apply zQ | apply zR | apply zS | apply zT | apply zU | (apply zV; (· omega)) | (apply zW; (· omega)) | (apply zX; (· (first | omega | (dsimp only; omega)))) | (apply zY; (try (apply zY; apply zX; (· omega))); apply zX; (· omega); apply zX; (· (first | omega | (dsimp only; omega)))) | ((first | apply yJ | apply yK | apply yL | apply yM | apply yN | apply yO); (· exact hgA); (· exact hsA)) | (apply yNP; (· exact hgA); (· exact hsA)) | ((first | apply zA | apply zC | apply zE | apply zG); (· omega)) | ((first | apply zB | apply zD | apply zF | apply zH); (· omega)) | ((first | apply zI | apply zK); (· with_reducible assumption)) | ((first | apply zJ | apply zL); (· with_reducible assumption)) | fail)
          conv => whnf
          have hH2 : ∀ j, j < HH.size → j ≠ mb → j ≠ p1 → H2.get j = HH.get j := fun j h1 h2 h3 => hf2.get j h1 h2 h3
          apply Exists.intro (⟨i + 1, _, p2, br2, pv2, v⟩ : RSt)
          refine ⟨?inv, ?mu, ?wk⟩
          case wk =>
            conv => whnf
            refine weakH_of (HW.refl _) ?_
            repeat' (first | exact WT.nil | refine WT.same ?_ | refine WT.drop ?_ | refine WT.int (by omega) ?_ | refine WT.eq (by assumption) ?_ | refine WT.bl (by first | assumption | (symm; assumption)) ?_ | refine WT.vv (by assumption) ?_)
          case mu => first | omega | (dsimp only; omega)
          case inv => exact ⟨by dsimp only; omega, hfr1.trans ⟨by dsimp only; exact hoA, fun j h1 h2 h3 => Eq.trans hgA (hH2 j h1 h2 h3), hp2⟩ hmbH hpo, by dsimp only; rw [efo]; exact hM2.keep hoA (fun j h1 h2 => hgA), by dsimp only; rw [efo]; exact ov_keep hov hov2 (by omega) (fun j h1 h2 h3 => Eq.trans hgA (hH2 j h1 h2 h3)) hoA⟩
        · skip
          repeat' ((conv => whnf); first | refine take_v hst2 (hM1.le leA) hok1 hcb2 (fun H2 p2 br2 pv2 hf2 hM2 => ?_); (have hp2 : p2 = p1 ∨ p2 = mb ∨ HH.size ≤ p2 := by have hq := hf2.po; first | omega | (simp at hq; omega)); (have hz2 : HH.size + 1 ≤ H2.size := hf2.size); (have hlt2 := hM2.lt); (have hpl2 := hM2.plt); (have hB : H2.get HH.size = some (.cells [iv 0, iv 0, iv 0, iv 0, iv 0, .string .empty] true 0) := (hf2.get HH.size hoA hoA hoA).trans hgA); (have hpB : p2 ≠ HH.size := by rcases hM2.pt with ⟨_, _, e⟩ | ⟨_, gp, _, _⟩; (· omega); (· intro e; rw [e, hB] at gp; simp at gp)) | ((first | (apply vB; (case h => with_reducible assumption)) | (apply vA; (case h => with_reducible assumption)) | (apply vC; (case h => with_reducible assumption))); (case hk => exact kpA); (case he => omega)) | ((first | (apply vI; (case h => with_reducible assumption)) | (apply vG; (case h => with_reducible assumption)) | (apply vK; (case h => with_reducible assumption))); (case hk => exact kpA); (case he => omega); (case hp => omega); (case' g => intro hr_ hc_)) | ((first | (apply vJ; (case h => with_reducible assumption)) | (apply vH; (case h => with_reducible assumption)) | (apply vL; (case h => with_reducible assumption))); (case hk => exact kpA); (case he => omega); (case' g => intro hr_ hc_)) | (apply drawS_auto mixed tt_ok; (· kernel_rfl)) | apply zZ | apply yA | apply yB | ((first | apply zA | apply zC | apply zE | apply zG); (· with_reducible assumption)) | ((first | apply zB | apply zD | apply zF | apply zH); (· with_reducible assumption)) | apply zM | apply zN | apply zO | apply zP | apply zQ | apply zR | apply zS | apply zT | apply zU | (apply zV; (· omega)) | (apply zW; (· omega)) | (apply zX; (· (first | omega | (dsimp only; omega)))) | (apply zY; (try (apply zY; apply zX; (· omega))); apply zX; (· omega); apply zX; (· (first | omega | (dsimp only; omega)))) | ((first | apply yJ | apply yK | apply yL | apply yM | apply yN | apply yO); (· exact hgA); (· exact hsA)) | (apply yNP; (· exact hgA); (· exact hsA)) | ((first | apply zA | apply zC | apply zE | apply zG); (· omega)) | ((first | apply zB | apply zD | apply zF | apply zH); (· omega)) | ((first | apply zI | apply zK); (· with_reducible assumption)) | ((first | apply zJ | apply zL); (· with_reducible assumption)) | fail)
          conv => whnf
          have hH2 : ∀ j, j < HH.size → j ≠ mb → j ≠ p1 → H2.get j = HH.get j := fun j h1 h2 h3 => (hf2.get j hoA h2 h3).trans hgA
          apply Exists.intro (⟨i + 1, _, p2, br2, pv2, v⟩ : RSt)
          refine ⟨?inv, ?mu, ?wk⟩
          case wk =>
            conv => whnf
            refine weakH_of (HW.refl _) ?_
            repeat' (first | exact WT.nil | refine WT.same ?_ | refine WT.drop ?_ | refine WT.int (by omega) ?_ | refine WT.eq (by assumption) ?_ | refine WT.bl (by first | assumption | (symm; assumption)) ?_ | refine WT.vv (by assumption) ?_)
          case mu => first | omega | (dsimp only; omega)
          case inv => exact ⟨by dsimp only; omega, hfr1.trans ⟨by dsimp only; exact hoA, fun j h1 h2 h3 => Eq.trans hgA (hH2 j h1 h2 h3), hp2⟩ hmbH hpo, by dsimp only; rw [efo]; exact hM2.keep hoA (fun j h1 h2 => hgA), by dsimp only; rw [efo]; exact ov_keep hov hov2 (by omega) (fun j h1 h2 h3 => Eq.trans hgA (hH2 j h1 h2 h3)) hoA⟩
      | some e2 =>
        have efo : feedN s S sk (i + 1) = ⟨S2, ki, oi ++ [e2]⟩ := by rw [efeed]; rfl
        repeat' ((conv => whnf); first | ((first | (apply vB; (case h => with_reducible assumption)) | (apply vA; (case h => with_reducible assumption)) | (apply vC; (case h => with_reducible assumption))); (case hk => exact kpA); (case he => omega)) | ((first | (apply vI; (case h => with_reducible assumption)) | (apply vG; (case h => with_reducible assumption)) | (apply vK; (case h => with_reducible assumption))); (case hk => exact kpA); (case he => omega); (case hp => omega); (case' g => intro hr_ hc_)) | ((first | (apply vJ; (case h => with_reducible assumption)) | (apply vH; (case h => with_reducible assumption)) | (apply vL; (case h => with_reducible assumption))); (case hk => exact kpA); (case he => omega); (case' g => intro hr_ hc_)) | (apply drawS_auto mixed tt_ok; (· kernel_rfl)) | apply zZ | apply yA | apply yB | ((first | apply zA | apply zC | apply zE | apply zG); (· with_reducible assumption)) | ((first | apply zB | apply zD | apply zF | apply zH); (· with_reducible assumption)) | apply zM | apply zN | apply zO | apply zP | apply zQ | apply zR | apply zS | apply zT | apply zU | (apply zV; (· omega)) | (apply zW; (· omega)) | (apply zX; (· (first | omega | (dsimp only; omega)))) | (apply zY; (try (apply zY; apply zX; (· omega))); apply zX; (· omega); apply zX; (· (first | omega | (dsimp only; omega)))) | ((first | apply yJ | apply yK | apply yL | apply yM | apply yN | apply yO); (· exact hgA); (· exact hsA)) | (apply yNP; (· exact hgA); (· exact hsA)) | ((first | apply zA | apply zC | apply zE | apply zG); (· omega)) | ((first | apply zB | apply zD | apply zF | apply zH); (· omega)) | ((first | apply zI | apply zK); (· with_reducible assumption)) | ((first | apply zJ | apply zL); (· with_reducible assumption)) | fail)
        conv => whnf
        refine ⟨?_, ?_⟩
        · skip
          rcases hov with ⟨rfl, hoe⟩ | ⟨ob, rfl, go, ho1, ho2⟩
          · skip
            repeat' ((conv => whnf); first | refine take_v hst2 hM1 hok1 hcb2 (fun H2 p2 br2 pv2 hf2 hM2 => ?_); (have hp2 : p2 = p1 ∨ p2 = mb ∨ HH.size ≤ p2 := by have hq := hf2.po; first | omega | (simp at hq; omega)); (have hz2 : HH.size ≤ H2.size := hf2.size); (have hlt2 := hM2.lt); (have hpl2 := hM2.plt) | ((first | (apply vB; (case h => with_reducible assumption)) | (apply vA; (case h => with_reducible assumption)) | (apply vC; (case h => with_reducible assumption))); (case hk => exact kpA); (case he => omega)) | ((first | (apply vI; (case h => with_reducible assumption)) | (apply vG; (case h => with_reducible assumption)) | (apply vK; (case h => with_reducible assumption))); (case hk => exact kpA); (case he => omega); (case hp => omega); (case' g => intro hr_ hc_)) | ((first | (apply vJ; (case h => with_reducible assumption)) | (apply vH; (case h => with_reducible assumption)) | (apply vL; (case h => with_reducible assumption))); (case hk => exact kpA); (case he => omega); (case' g => intro hr_ hc_)) | (apply drawS_auto mixed tt_ok; (· kernel_rfl)) | apply zZ | apply yA | apply yB | ((first | apply zA | apply zC | apply zE | apply zG); (· with_reducible assumption)) | ((first | apply zB | apply zD | apply zF | apply zH); (· with_reducible assumption)) | apply zM | apply zN | apply zO | apply zP | apply zQ | apply zR | apply zS | apply zT | apply zU | (apply zV; (· omega)) | (apply zW; (· omega)) | (apply zX; (· (first | omega | (dsimp only; omega)))) | (apply zY; (try (apply zY; apply zX; (· omega))); apply zX; (· omega); apply zX; (· (first | omega | (dsimp only; omega)))) | ((first | apply yJ | apply yK | apply yL | apply yM | apply yN | apply yO); (· exact hgA); (· exact hsA)) | (apply yNP; (· exact hgA); (· exact hsA)) | ((first | apply zA | apply zC | apply zE | apply zG); (· omega)) | ((first | apply zB | apply zD | apply zF | apply zH); (· omega)) | ((first | apply zI | apply zK); (· with_reducible assumption)) | ((first | apply zJ | apply zL); (· with_reducible assumption)) | fail)
            conv => whnf
            have hH2 : ∀ j, j < HH.size → j ≠ mb → j ≠ p1 → H2.get j = HH.get j := fun j h1 h2 h3 => hf2.get j h1 h2 h3
            apply Exists.intro (⟨i + 1, _, p2, br2, pv2, _⟩ : RSt)
            refine ⟨?inv, ?mu, ?wk⟩
            case wk =>
              conv => whnf
              refine weakH_of (HW.refl _) ?_
              repeat' (first | exact WT.nil | refine WT.same ?_ | refine WT.drop ?_ | refine WT.int (by omega) ?_ | refine WT.eq (by assumption) ?_ | refine WT.bl (by first | assumption | (symm; assumption)) ?_ | refine WT.vv (by assumption) ?_)
            case mu => first | omega | (dsimp only; omega)
            case inv => exact ⟨by dsimp only; omega, hfr1.trans ⟨by dsimp only; exact hoA, fun j h1 h2 h3 => Eq.trans hgA (hH2 j h1 h2 h3), hp2⟩ hmbH hpo, by dsimp only; rw [efo]; exact hM2.keep hoA (fun j h1 h2 => hgA), by dsimp only; rw [efo, hoe]; exact .inr ⟨_, rfl, by rw [List.nil_append, flatEv_one]; exact hgA, hoA, hoA⟩⟩
          · have hob := hov2 ob rfl go ho1
            repeat' ((conv => whnf); first | refine take_v hst2 hM1 hok1 hcb2 (fun H2 p2 br2 pv2 hf2 hM2 => ?_); (have hp2 : p2 = p1 ∨ p2 = mb ∨ HH.size ≤ p2 := by have hq := hf2.po; first | omega | (simp at hq; omega)); (have hz2 : HH.size ≤ H2.size := hf2.size); (have hlt2 := hM2.lt); (have hpl2 := hM2.plt); (have gob2 : H2.get ob = some (.cells (flatEv fr oi) true 6) := (hf2.get ob (by omega) (by omega) hob).trans go) | (refine own_ev (fr := fr) (es := oi) ?_ ?_ ?_; (· exact hgA); (· simp)) | (refine lds_ev (fr := fr) (es := oi) ?_ rfl rfl ?_; (· exact hgA)) | ((first | (apply vB; (case h => with_reducible assumption)) | (apply vA; (case h => with_reducible assumption)) | (apply vC; (case h => with_reducible assumption))); (case hk => exact kpA); (case he => omega)) | ((first | (apply vI; (case h => with_reducible assumption)) | (apply vG; (case h => with_reducible assumption)) | (apply vK; (case h => with_reducible assumption))); (case hk => exact kpA); (case he => omega); (case hp => omega); (case' g => intro hr_ hc_)) | ((first | (apply vJ; (case h => with_reducible assumption)) | (apply vH; (case h => with_reducible assumption)) | (apply vL; (case h => with_reducible assumption))); (case hk => exact kpA); (case he => omega); (case' g => intro hr_ hc_)) | (apply drawS_auto mixed tt_ok; (· kernel_rfl)) | apply zZ | apply yA | apply yB | ((first | apply zA | apply zC | apply zE | apply zG); (· with_reducible assumption)) | ((first | apply zB | apply zD | apply zF | apply zH); (· with_reducible assumption)) | apply zM | apply zN | apply zO | apply zP | apply zQ | apply zR | apply zS | apply zT | apply zU | (apply zV; (· omega)) | (apply zW; (· omega)) | (apply zX; (· (first | omega | (dsimp only; omega)))) | (apply zY; (try (apply zY; apply zX; (· omega))); apply zX; (· omega); apply zX; (· (first | omega | (dsimp only; omega)))) | ((first | apply yJ | apply yK | apply yL | apply yM | apply yN | apply yO); (· exact hgA); (· exact hsA)) | (apply yNP; (· exact hgA); (· exact hsA)) | ((first | apply zA | apply zC | apply zE | apply zG); (· omega)) | ((first | apply zB | apply zD | apply zF | apply zH); (· omega)) | ((first | apply zI | apply zK); (· with_reducible assumption)) | ((first | apply zJ | apply zL); (· with_reducible assumption)) | fail)
            conv => whnf
            have hH2 : ∀ j, j < HH.size → j ≠ mb → j ≠ p1 → H2.get j = HH.get j := fun j h1 h2 h3 => hf2.get j h1 h2 h3
            apply Exists.intro (⟨i + 1, _, p2, br2, pv2, _⟩ : RSt)
            refine ⟨?inv, ?mu, ?wk⟩
            case wk =>
              conv => whnf
              refine weakH_of (HW.refl _) ?_
              repeat' (first | exact WT.nil | refine WT.same ?_ | refine WT.drop ?_ | refine WT.int (by omega) ?_ | refine WT.eq (by assumption) ?_ | refine WT.bl (by first | assumption | (symm; assumption)) ?_ | refine WT.vv (by assumption) ?_)
            case mu => first | omega | (dsimp only; omega)
            case inv => exact ⟨by dsimp only; omega, hfr1.trans_x (o := ob) ⟨by dsimp only; exact hoA, fun j h1 h2 h3 h4 => Eq.trans hgA (hH2 j h1 h2 h3), hp2⟩ hmbH hpo ho1, by dsimp only; rw [efo]; exact hM2.keep hoA (fun j h1 h2 => hgA), by dsimp only; rw [efo]; exact .inr ⟨_, by rw [List.length_append]; rfl, by rw [flatEv_app, flatEv_one]; exact hgA, hoA, hoA⟩⟩
        · skip
          rcases hov with ⟨rfl, hoe⟩ | ⟨ob, rfl, go, ho1, ho2⟩
          · skip
            repeat' ((conv => whnf); first | refine take_v hst2 (hM1.le leA) hok1 hcb2 (fun H2 p2 br2 pv2 hf2 hM2 => ?_); (have hp2 : p2 = p1 ∨ p2 = mb ∨ HH.size ≤ p2 := by have hq := hf2.po; first | omega | (simp at hq; omega)); (have hz2 : HH.size + 1 ≤ H2.size := hf2.size); (have hlt2 := hM2.lt); (have hpl2 := hM2.plt); (have hB : H2.get HH.size = some (.cells [iv 0, iv 0, iv 0, iv 0, iv 0, .string .empty] true 0) := (hf2.get HH.size hoA hoA hoA).trans hgA); (have hpB : p2 ≠ HH.size := by rcases hM2.pt with ⟨_, _, e⟩ | ⟨_, gp, _, _⟩; (· omega); (· intro e; rw [e, hB] at gp; simp at gp)) | ((first | (apply vB; (case h => with_reducible assumption)) | (apply vA; (case h => with_reducible assumption)) | (apply vC; (case h => with_reducible assumption))); (case hk => exact kpA); (case he => omega)) | ((first | (apply vI; (case h => with_reducible assumption)) | (apply vG; (case h => with_reducible assumption)) | (apply vK; (case h => with_reducible assumption))); (case hk => exact kpA); (case he => omega); (case hp => omega); (case' g => intro hr_ hc_)) | ((first | (apply vJ; (case h => with_reducible assumption)) | (apply vH; (case h => with_reducible assumption)) | (apply vL; (case h => with_reducible assumption))); (case hk => exact kpA); (case he => omega); (case' g => intro hr_ hc_)) | (apply drawS_auto mixed tt_ok; (· kernel_rfl)) | apply zZ | apply yA | apply yB | ((first | apply zA | apply zC | apply zE | apply zG); (· with_reducible assumption)) | ((first | apply zB | apply zD | apply zF | apply zH); (· with_reducible assumption)) | apply zM | apply zN | apply zO | apply zP | apply zQ | apply zR | apply zS | apply zT | apply zU | (apply zV; (· omega)) | (apply zW; (· omega)) | (apply zX; (· (first | omega | (dsimp only; omega)))) | (apply zY; (try (apply zY; apply zX; (· omega))); apply zX; (· omega); apply zX; (· (first | omega | (dsimp only; omega)))) | ((first | apply yJ | apply yK | apply yL | apply yM | apply yN | apply yO); (· exact hgA); (· exact hsA)) | (apply yNP; (· exact hgA); (· exact hsA)) | ((first | apply zA | apply zC | apply zE | apply zG); (· omega)) | ((first | apply zB | apply zD | apply zF | apply zH); (· omega)) | ((first | apply zI | apply zK); (· with_reducible assumption)) | ((first | apply zJ | apply zL); (· with_reducible assumption)) | fail)
            conv => whnf
            have hH2 : ∀ j, j < HH.size → j ≠ mb → j ≠ p1 → H2.get j = HH.get j := fun j h1 h2 h3 => (hf2.get j hoA h2 h3).trans hgA
            apply Exists.intro (⟨i + 1, _, p2, br2, pv2, _⟩ : RSt)
            refine ⟨?inv, ?mu, ?wk⟩
            case wk =>
              conv => whnf
              refine weakH_of (HW.refl _) ?_
              repeat' (first | exact WT.nil | refine WT.same ?_ | refine WT.drop ?_ | refine WT.int (by omega) ?_ | refine WT.eq (by assumption) ?_ | refine WT.bl (by first | assumption | (symm; assumption)) ?_ | refine WT.vv (by assumption) ?_)
            case mu => first | omega | (dsimp only; omega)
            case inv => exact ⟨by dsimp only; omega, hfr1.trans ⟨by dsimp only; exact hoA, fun j h1 h2 h3 => Eq.trans hgA (hH2 j h1 h2 h3), hp2⟩ hmbH hpo, by dsimp only; rw [efo]; exact hM2.keep hoA (fun j h1 h2 => hgA), by dsimp only; rw [efo, hoe]; exact .inr ⟨_, rfl, by rw [List.nil_append, flatEv_one]; exact hgA, hoA, hoA⟩⟩
          · have hob := hov2 ob rfl go ho1
            repeat' ((conv => whnf); first | refine take_v hst2 (hM1.le leA) hok1 hcb2 (fun H2 p2 br2 pv2 hf2 hM2 => ?_); (have hp2 : p2 = p1 ∨ p2 = mb ∨ HH.size ≤ p2 := by have hq := hf2.po; first | omega | (simp at hq; omega)); (have hz2 : HH.size + 1 ≤ H2.size := hf2.size); (have hlt2 := hM2.lt); (have hpl2 := hM2.plt); (have hB : H2.get HH.size = some (.cells [iv 0, iv 0, iv 0, iv 0, iv 0, .string .empty] true 0) := (hf2.get HH.size hoA hoA hoA).trans hgA); (have hpB : p2 ≠ HH.size := by rcases hM2.pt with ⟨_, _, e⟩ | ⟨_, gp, _, _⟩; (· omega); (· intro e; rw [e, hB] at gp; simp at gp)); (have gob2 : H2.get ob = some (.cells (flatEv fr oi) true 6) := ((hf2.get ob hoA (by omega) hob).trans hgA).trans go) | (refine own_ev (fr := fr) (es := oi) ?_ ?_ ?_; (· exact hgA); (· simp)) | (refine lds_ev (fr := fr) (es := oi) ?_ rfl rfl ?_; (· exact hgA)) | ((first | (apply vB; (case h => with_reducible assumption)) | (apply vA; (case h => with_reducible assumption)) | (apply vC; (case h => with_reducible assumption))); (case hk => exact kpA); (case he => omega)) | ((first | (apply vI; (case h => with_reducible assumption)) | (apply vG; (case h => with_reducible assumption)) | (apply vK; (case h => with_reducible assumption))); (case hk => exact kpA); (case he => omega); (case hp => omega); (case' g => intro hr_ hc_)) | ((first | (apply vJ; (case h => with_reducible assumption)) | (apply vH; (case h => with_reducible assumption)) | (apply vL; (case h => with_reducible assumption))); (case hk => exact kpA); (case he => omega); (case' g => intro hr_ hc_)) | (apply drawS_auto mixed tt_ok; (· kernel_rfl)) | apply zZ | apply yA | apply yB | ((first | apply zA | apply zC | apply zE | apply zG); (· with_reducible assumption)) | ((first | apply zB | apply zD | apply zF | apply zH); (· with_reducible assumption)) | apply zM | apply zN | apply zO | apply zP | apply zQ | apply zR | apply zS | apply zT | apply zU | (apply zV; (· omega)) | (apply zW; (· omega)) | (apply zX; (· (first | omega | (dsimp only; omega)))) | (apply zY; (try (apply zY; apply zX; (· omega))); apply zX; (· omega); apply zX; (· (first | omega | (dsimp only; omega)))) | ((first | apply yJ | apply yK | apply yL | apply yM | apply yN | apply yO); (· exact hgA); (· exact hsA)) | (apply yNP; (· exact hgA); (· exact hsA)) | ((first | apply zA | apply zC | apply zE | apply zG); (· omega)) | ((first | apply zB | apply zD | apply zF | apply zH); (· omega)) | ((first | apply zI | apply zK); (· with_reducible assumption)) | ((first | apply zJ | apply zL); (· with_reducible assumption)) | fail)
            conv => whnf
            have hH2 : ∀ j, j < HH.size → j ≠ mb → j ≠ p1 → H2.get j = HH.get j := fun j h1 h2 h3 => (hf2.get j hoA h2 h3).trans hgA
            apply Exists.intro (⟨i + 1, _, p2, br2, pv2, _⟩ : RSt)
            refine ⟨?inv, ?mu, ?wk⟩
            case wk =>
              conv => whnf
              refine weakH_of (HW.refl _) ?_
              repeat' (first | exact WT.nil | refine WT.same ?_ | refine WT.drop ?_ | refine WT.int (by omega) ?_ | refine WT.eq (by assumption) ?_ | refine WT.bl (by first | assumption | (symm; assumption)) ?_ | refine WT.vv (by assumption) ?_)
            case mu => first | omega | (dsimp only; omega)
            case inv => exact ⟨by dsimp only; omega, hfr1.trans_x (o := ob) ⟨by dsimp only; exact hoA, fun j h1 h2 h3 h4 => Eq.trans hgA (hH2 j h1 h2 h3), hp2⟩ hmbH hpo ho1, by dsimp only; rw [efo]; exact hM2.keep hoA (fun j h1 h2 => hgA), by dsimp only; rw [efo]; exact .inr ⟨_, by rw [List.length_append]; rfl, by rw [flatEv_app, flatEv_one]; exact hgA, hoA, hoA⟩⟩
    | true =>
      have hSw : S2 = Si := by
        have := stepW (c := sAt s i) (S := Si) (by rw [hst])
        rw [hst] at this
        exact this
      have hwo : o2 = none := by
        have := stepWo (c := sAt s i) (S := Si) (by rw [hst])
        rw [hst] at this
        exact this
      subst hSw hwo
      have hskb : 0 ≤ ki ∧ ki ≤ 10000000000 := by omega
      have hpd2 := pend_bd hok1
      by_cases hc8 : 128 ≤ sAt s i ∧ sAt s i ≤ 240
      · have hc82 : 128 ≤ sAt s ((i : Int).toNat) ∧ sAt s ((i : Int).toNat) ≤ 240 := by rw [Int.toNat_natCast]; exact hc8
        have ef : feedB (sAt s i) S2 ki = (begS (sAt s i) true, ki + pend S2, none) := by unfold feedB; rw [hst, if_pos rfl, if_pos hc8]
        rw [ef] at efeed
        have efo : feedN s S sk (i + 1) = ⟨begS (sAt s i) true, ki + pend S2, oi⟩ := by rw [efeed]; simp
        have hst3 : stepS (sAt s ((i : Int).toNat)) ⟨0, 0, S2.sent, []⟩ = (begS (sAt s i) true, none, false) := by
          rw [Int.toNat_natCast]
          unfold stepS
          rw [if_neg (by omega), if_neg (by dsimp only; omega), if_pos ⟨rfl, hc8⟩]
        repeat' ((conv => whnf); first | ((first | (apply vB; (case h => with_reducible assumption)) | (apply vA; (case h => with_reducible assumption)) | (apply vC; (case h => with_reducible assumption))); (case hk => exact kpA); (case he => omega)) | ((first | (apply vI; (case h => with_reducible assumption)) | (apply vG; (case h => with_reducible assumption)) | (apply vK; (case h => with_reducible assumption))); (case hk => exact kpA); (case he => omega); (case hp => omega); (case' g => intro hr_ hc_)) | ((first | (apply vJ; (case h => with_reducible assumption)) | (apply vH; (case h => with_reducible assumption)) | (apply vL; (case h => with_reducible assumption))); (case hk => exact kpA); (case he => omega); (case' g => intro hr_ hc_)) | (apply drawS_auto mixed tt_ok; (· kernel_rfl)) | apply zZ | apply yA | apply yB | ((first | apply zA | apply zC | apply zE | apply zG); (· with_reducible assumption)) | ((first | apply zB | apply zD | apply zF | apply zH); (· with_reducible assumption)) | apply zM | apply zN | apply zO | apply zP | apply zQ | apply zR | apply zS | apply zT | apply zU | (apply zV; (· omega)) | (apply zW; (· omega)) | (apply zX; (· (first | omega | (dsimp only; omega)))) | (apply zY; (try (apply zY; apply zX; (· omega))); apply zX; (· omega); apply zX; (· (first | omega | (dsimp only; omega)))) | ((first | apply yJ | apply yK | apply yL | apply yM | apply yN | apply yO); (· exact hgA); (· exact hsA)) | (apply yNP; (· exact hgA); (· exact hsA)) | ((first | apply zA | apply zC | apply zE | apply zG); (· omega)) | ((first | apply zB | apply zD | apply zF | apply zH); (· omega)) | ((first | apply zI | apply zK); (· with_reducible assumption)) | ((first | apply zJ | apply zL); (· with_reducible assumption)) | fail)
        conv => whnf
        refine ⟨?_, ?_⟩
        · skip
          repeat' ((conv => whnf); first | refine take_v hst2 hM1 hok1 hcb2 (fun H2 p2 br2 pv2 hf2 hM2 => ?_); (have hp2 : p2 = p1 ∨ p2 = mb ∨ HH.size ≤ p2 := by have hq := hf2.po; first | omega | (simp at hq; omega)); (have hz2 : HH.size ≤ H2.size := hf2.size); (have hlt2 := hM2.lt); (have hpl2 := hM2.plt) | refine drop_c (hM2.le leA) hok1 hskb (fun H3 hf3 hM3 => ?_); (have hz3 : H2.size + 1 ≤ H3.size := hf3.size); (have hB3 : H3.get H2.size = some (.cells [iv 0, iv 0, iv 0, iv 0, iv 0, .string .empty] true 0) := (hf3.get H2.size hoA hoA hoA).trans hgA); (have g3 := hM3.g); (have h3f : ∀ j, j < HH.size → j ≠ mb → j ≠ p1 → H3.get j = HH.get j := fun j h1 h2 h3 => (hf3.get j hoA h2 (by omega)).trans (Eq.trans hgA (hf2.get j h1 h2 h3))) | refine take_v hst3 hM3 (ok_fresh _) hcb2 (fun H4 p4 br4 pv4 hf4 hM4 => ?_); (have hz4 : H3.size ≤ H4.size := hf4.size); (have hp4 : p4 = mb ∨ H3.size ≤ p4 := by have := hf4.po; omega); (have hB4 : H4.get H2.size = some (.cells [iv 0, iv 0, iv 0, iv 0, iv 0, .string .empty] true 0) := (hf4.get H2.size hoA hoA hoA).trans hB3); (have hlt4 := hM4.lt) | ((first | (apply vB; (case h => with_reducible assumption)) | (apply vA; (case h => with_reducible assumption)) | (apply vC; (case h => with_reducible assumption))); (case hk => exact kpA); (case he => omega)) | ((first | (apply vI; (case h => with_reducible assumption)) | (apply vG; (case h => with_reducible assumption)) | (apply vK; (case h => with_reducible assumption))); (case hk => exact kpA); (case he => omega); (case hp => omega); (case' g => intro hr_ hc_)) | ((first | (apply vJ; (case h => with_reducible assumption)) | (apply vH; (case h => with_reducible assumption)) | (apply vL; (case h => with_reducible assumption))); (case hk => exact kpA); (case he => omega); (case' g => intro hr_ hc_)) | (apply drawS_auto mixed tt_ok; (· kernel_rfl)) | apply zZ | apply yA | apply yB | ((first | apply zA | apply zC | apply zE | apply zG); (· with_reducible assumption)) | ((first | apply zB | apply zD | apply zF | apply zH); (· with_reducible assumption)) | apply zM | apply zN | apply zO | apply zP | apply zQ | apply zR | apply zS | apply zT | apply zU | (apply zV; (· omega)) | (apply zW; (· omega)) | (apply zX; (· (first | omega | (dsimp only; omega)))) | (apply zY; (try (apply zY; apply zX; (· omega))); apply zX; (· omega); apply zX; (· (first | omega | (dsimp only; omega)))) | ((first | apply yJ | apply yK | apply yL | apply yM | apply yN | apply yO); (· exact hgA); (· exact hsA)) | (apply yNP; (· exact hgA); (· exact hsA)) | ((first | apply zA | apply zC | apply zE | apply zG); (· omega)) | ((first | apply zB | apply zD | apply zF | apply zH); (· omega)) | ((first | apply zI | apply zK); (· with_reducible assumption)) | ((first | apply zJ | apply zL); (· with_reducible assumption)) | fail)
          conv => whnf
          apply Exists.intro (⟨i + 1, _, p4, br4, pv4, v⟩ : RSt)
          refine ⟨?inv, ?mu, ?wk⟩
          case wk =>
            conv => whnf
            refine weakH_of (HW.refl _) ?_
            repeat' (first | exact WT.nil | refine WT.same ?_ | refine WT.drop ?_ | refine WT.int (by omega) ?_ | refine WT.eq (by assumption) ?_ | refine WT.bl (by first | assumption | (symm; assumption)) ?_ | refine WT.vv (by assumption) ?_)
          case mu => first | omega | (dsimp only; omega)
          case inv => exact ⟨by dsimp only; omega, hfr1.trans ⟨by dsimp only; exact hoA, fun j h1 h2 h3 => Eq.trans hgA ((hf4.get j (by omega) h2 (by omega)).trans (h3f j h1 h2 h3)), by dsimp only; omega⟩ hmbH hpo, by dsimp only; rw [efo]; exact hM4.keep hoA (fun j h1 h2 => hgA), by dsimp only; rw [efo]; exact ov_keep hov hov2 (by omega) (fun j h1 h2 h3 => Eq.trans hgA ((hf4.get j (by omega) h2 (by omega)).trans (h3f j h1 h2 h3))) hoA⟩
        · skip
          repeat' ((conv => whnf); first | refine take_v hst2 (hM1.le leA) hok1 hcb2 (fun H2 p2 br2 pv2 hf2 hM2 => ?_); (have hp2 : p2 = p1 ∨ p2 = mb ∨ HH.size ≤ p2 := by have hq := hf2.po; first | omega | (simp at hq; omega)); (have hz2 : HH.size + 1 ≤ H2.size := hf2.size); (have hlt2 := hM2.lt); (have hpl2 := hM2.plt); (have hB : H2.get HH.size = some (.cells [iv 0, iv 0, iv 0, iv 0, iv 0, .string .empty] true 0) := (hf2.get HH.size hoA hoA hoA).trans hgA); (have hpB : p2 ≠ HH.size := by rcases hM2.pt with ⟨_, _, e⟩ | ⟨_, gp, _, _⟩; (· omega); (· intro e; rw [e, hB] at gp; simp at gp)) | refine drop_c (hM2.keep hoA (fun j h1 h2 => hgA)) hok1 hskb (fun H3 hf3 hM3 => ?_); (have hz3 : H2.size ≤ H3.size := hf3.size); (have hB3 : H3.get HH.size = some (.cells [iv 0, iv 0, iv 0, iv 0, iv 0, .string .empty] true 0) := (hf3.get HH.size hoA hoA hoA).trans hgA); (have g3 := hM3.g); (have h3f : ∀ j, j < HH.size → j ≠ mb → j ≠ p1 → H3.get j = HH.get j := fun j h1 h2 h3 => (hf3.get j hoA h2 (by omega)).trans (Eq.trans hgA ((hf2.get j hoA h2 h3).trans hgA))) | refine take_v hst3 hM3 (ok_fresh _) hcb2 (fun H4 p4 br4 pv4 hf4 hM4 => ?_); (have hz4 : H3.size ≤ H4.size := hf4.size); (have hp4 : p4 = mb ∨ H3.size ≤ p4 := by have := hf4.po; omega); (have hB4 : H4.get HH.size = some (.cells [iv 0, iv 0, iv 0, iv 0, iv 0, .string .empty] true 0) := (hf4.get HH.size hoA hoA hoA).trans hB3); (have hlt4 := hM4.lt) | ((first | (apply vB; (case h => with_reducible assumption)) | (apply vA; (case h => with_reducible assumption)) | (apply vC; (case h => with_reducible assumption))); (case hk => exact kpA); (case he => omega)) | ((first | (apply vI; (case h => with_reducible assumption)) | (apply vG; (case h => with_reducible assumption)) | (apply vK; (case h => with_reducible assumption))); (case hk => exact kpA); (case he => omega); (case hp => omega); (case' g => intro hr_ hc_)) | ((first | (apply vJ; (case h => with_reducible assumption)) | (apply vH; (case h => with_reducible assumption)) | (apply vL; (case h => with_reducible assumption))); (case hk => exact kpA); (case he => omega); (case' g => intro hr_ hc_)) | (apply drawS_auto mixed tt_ok; (· kernel_rfl)) | apply zZ | apply yA | apply yB | ((first | apply zA | apply zC | apply zE | apply zG); (· with_reducible assumption)) | ((first | apply zB | apply zD | apply zF | apply zH); (· with_reducible assumption)) | apply zM | apply zN | apply zO | apply zP | apply zQ | apply zR | apply zS | apply zT | apply zU | (apply zV; (· omega)) | (apply zW; (· omega)) | (apply zX; (· (first | omega | (dsimp only; omega)))) | (apply zY; (try (apply zY; apply zX; (· omega))); apply zX; (· omega); apply zX; (· (first | omega | (dsimp only; omega)))) | ((first | apply yJ | apply yK | apply yL | apply yM | apply yN | apply yO); (· exact hgA); (· exact hsA)) | (apply yNP; (· exact hgA); (· exact hsA)) | ((first | apply zA | apply zC | apply zE | apply zG); (· omega)) | ((first | apply zB | apply zD | apply zF | apply zH); (· omega)) | ((first | apply zI | apply zK); (· with_reducible assumption)) | ((first | apply zJ | apply zL); (· with_reducible assumption)) | fail)
          conv => whnf
          apply Exists.intro (⟨i + 1, _, p4, br4, pv4, v⟩ : RSt)
          refine ⟨?inv, ?mu, ?wk⟩
          case wk =>
            conv => whnf
            refine weakH_of (HW.refl _) ?_
            repeat' (first | exact WT.nil | refine WT.same ?_ | refine WT.drop ?_ | refine WT.int (by omega) ?_ | refine WT.eq (by assumption) ?_ | refine WT.bl (by first | assumption | (symm; assumption)) ?_ | refine WT.vv (by assumption) ?_)
          case mu => first | omega | (dsimp only; omega)
          case inv => exact ⟨by dsimp only; omega, hfr1.trans ⟨by dsimp only; exact hoA, fun j h1 h2 h3 => Eq.trans hgA ((hf4.get j (by omega) h2 (by omega)).trans (h3f j h1 h2 h3)), by dsimp only; omega⟩ hmbH hpo, by dsimp only; rw [efo]; exact hM4.keep hoA (fun j h1 h2 => hgA), by dsimp only; rw [efo]; exact ov_keep hov hov2 (by omega) (fun j h1 h2 h3 => Eq.trans hgA ((hf4.get j (by omega) h2 (by omega)).trans (h3f j h1 h2 h3))) hoA⟩
      · have hc82 : ¬(128 ≤ sAt s ((i : Int).toNat) ∧ sAt s ((i : Int).toNat) ≤ 240) := by rw [Int.toNat_natCast]; exact hc8
        have ef : feedB (sAt s i) S2 ki = (⟨0, 0, S2.sent, []⟩, ki + pend S2 + 1, none) := by unfold feedB; rw [hst, if_pos rfl, if_neg hc8]
        rw [ef] at efeed
        have efo : feedN s S sk (i + 1) = ⟨⟨0, 0, S2.sent, []⟩, ki + pend S2 + 1, oi⟩ := by rw [efeed]; simp
        by_cases hlo : sAt s ((i : Int).toNat) < 128
        · skip
          repeat' ((conv => whnf); first | ((first | (apply vB; (case h => with_reducible assumption)) | (apply vA; (case h => with_reducible assumption)) | (apply vC; (case h => with_reducible assumption))); (case hk => exact kpA); (case he => omega)) | ((first | (apply vI; (case h => with_reducible assumption)) | (apply vG; (case h => with_reducible assumption)) | (apply vK; (case h => with_reducible assumption))); (case hk => exact kpA); (case he => omega); (case hp => omega); (case' g => intro hr_ hc_)) | ((first | (apply vJ; (case h => with_reducible assumption)) | (apply vH; (case h => with_reducible assumption)) | (apply vL; (case h => with_reducible assumption))); (case hk => exact kpA); (case he => omega); (case' g => intro hr_ hc_)) | (apply drawS_auto mixed tt_ok; (· kernel_rfl)) | apply zZ | apply yA | apply yB | ((first | apply zA | apply zC | apply zE | apply zG); (· with_reducible assumption)) | ((first | apply zB | apply zD | apply zF | apply zH); (· with_reducible assumption)) | apply zM | apply zN | apply zO | apply zP | apply zQ | apply zR | apply zS | apply zT | apply zU | (apply zV; (· omega)) | (apply zW; (· omega)) | (apply zX; (· (first | omega | (dsimp only; omega)))) | (apply zY; (try (apply zY; apply zX; (· omega))); apply zX; (· omega); apply zX; (· (first | omega | (dsimp only; omega)))) | ((first | apply yJ | apply yK | apply yL | apply yM | apply yN | apply yO); (· exact hgA); (· exact hsA)) | (apply yNP; (· exact hgA); (· exact hsA)) | ((first | apply zA | apply zC | apply zE | apply zG); (· omega)) | ((first | apply zB | apply zD | apply zF | apply zH); (· omega)) | ((first | apply zI | apply zK); (· with_reducible assumption)) | ((first | apply zJ | apply zL); (· with_reducible assumption)) | fail)
          conv => whnf
          refine ⟨?_, ?_⟩
          · skip
            repeat' ((conv => whnf); first | refine take_v hst2 hM1 hok1 hcb2 (fun H2 p2 br2 pv2 hf2 hM2 => ?_); (have hp2 : p2 = p1 ∨ p2 = mb ∨ HH.size ≤ p2 := by have hq := hf2.po; first | omega | (simp at hq; omega)); (have hz2 : HH.size ≤ H2.size := hf2.size); (have hlt2 := hM2.lt); (have hpl2 := hM2.plt) | refine drop_c (hM2.le leA) hok1 hskb (fun H3 hf3 hM3 => ?_); (have hz3 : H2.size + 1 ≤ H3.size := hf3.size); (have hB3 : H3.get H2.size = some (.cells [iv 0, iv 0, iv 0, iv 0, iv 0, .string .empty] true 0) := (hf3.get H2.size hoA hoA hoA).trans hgA); (have g3 := hM3.g); (have h3f : ∀ j, j < HH.size → j ≠ mb → j ≠ p1 → H3.get j = HH.get j := fun j h1 h2 h3 => (hf3.get j hoA h2 (by omega)).trans (Eq.trans hgA (hf2.get j h1 h2 h3))) | ((first | (apply vB; (case h => with_reducible assumption)) | (apply vA; (case h => with_reducible assumption)) | (apply vC; (case h => with_reducible assumption))); (case hk => exact kpA); (case he => omega)) | ((first | (apply vI; (case h => with_reducible assumption)) | (apply vG; (case h => with_reducible assumption)) | (apply vK; (case h => with_reducible assumption))); (case hk => exact kpA); (case he => omega); (case hp => omega); (case' g => intro hr_ hc_)) | ((first | (apply vJ; (case h => with_reducible assumption)) | (apply vH; (case h => with_reducible assumption)) | (apply vL; (case h => with_reducible assumption))); (case hk => exact kpA); (case he => omega); (case' g => intro hr_ hc_)) | (apply drawS_auto mixed tt_ok; (· kernel_rfl)) | apply zZ | apply yA | apply yB | ((first | apply zA | apply zC | apply zE | apply zG); (· with_reducible assumption)) | ((first | apply zB | apply zD | apply zF | apply zH); (· with_reducible assumption)) | apply zM | apply zN | apply zO | apply zP | apply zQ | apply zR | apply zS | apply zT | apply zU | (apply zV; (· omega)) | (apply zW; (· omega)) | (apply zX; (· (first | omega | (dsimp only; omega)))) | (apply zY; (try (apply zY; apply zX; (· omega))); apply zX; (· omega); apply zX; (· (first | omega | (dsimp only; omega)))) | ((first | apply yJ | apply yK | apply yL | apply yM | apply yN | apply yO); (· exact hgA); (· exact hsA)) | (apply yNP; (· exact hgA); (· exact hsA)) | ((first | apply zA | apply zC | apply zE | apply zG); (· omega)) | ((first | apply zB | apply zD | apply zF | apply zH); (· omega)) | ((first | apply zI | apply zK); (· with_reducible assumption)) | ((first | apply zJ | apply zL); (· with_reducible assumption)) | fail)
            conv => whnf
            apply Exists.intro (⟨i + 1, _, mb, false, .slice none 0 0, v⟩ : RSt)
            refine ⟨?inv, ?mu, ?wk⟩
            case wk =>
              conv => whnf
              refine weakH_of (HW.refl _) ?_
              repeat' (first | exact WT.nil | refine WT.same ?_ | refine WT.drop ?_ | refine WT.int (by omega) ?_ | refine WT.eq (by assumption) ?_ | refine WT.bl (by first | assumption | (symm; assumption)) ?_ | refine WT.vv (by assumption) ?_)
            case mu => first | omega | (dsimp only; omega)
            case inv => exact ⟨by dsimp only; omega, hfr1.trans ⟨by dsimp only; exact hoA, fun j h1 h2 h3 => Eq.trans hgA (h3f j h1 h2 h3), .inr (.inl rfl)⟩ hmbH hpo, by dsimp only; rw [efo]; exact ⟨hgA, hoA, fun h1 _ => absurd rfl h1, .inl ⟨rfl, rfl, rfl⟩⟩, by dsimp only; rw [efo]; exact ov_keep hov hov2 (by omega) (fun j h1 h2 h3 => Eq.trans hgA (h3f j h1 h2 h3)) hoA⟩
          · skip
            repeat' ((conv => whnf); first | refine take_v hst2 (hM1.le leA) hok1 hcb2 (fun H2 p2 br2 pv2 hf2 hM2 => ?_); (have hp2 : p2 = p1 ∨ p2 = mb ∨ HH.size ≤ p2 := by have hq := hf2.po; first | omega | (simp at hq; omega)); (have hz2 : HH.size + 1 ≤ H2.size := hf2.size); (have hlt2 := hM2.lt); (have hpl2 := hM2.plt); (have hB : H2.get HH.size = some (.cells [iv 0, iv 0, iv 0, iv 0, iv 0, .string .empty] true 0) := (hf2.get HH.size hoA hoA hoA).trans hgA); (have hpB : p2 ≠ HH.size := by rcases hM2.pt with ⟨_, _, e⟩ | ⟨_, gp, _, _⟩; (· omega); (· intro e; rw [e, hB] at gp; simp at gp)) | refine drop_c (hM2.keep hoA (fun j h1 h2 => hgA)) hok1 hskb (fun H3 hf3 hM3 => ?_); (have hz3 : H2.size ≤ H3.size := hf3.size); (have hB3 : H3.get HH.size = some (.cells [iv 0, iv 0, iv 0, iv 0, iv 0, .string .empty] true 0) := (hf3.get HH.size hoA hoA hoA).trans hgA); (have g3 := hM3.g); (have h3f : ∀ j, j < HH.size → j ≠ mb → j ≠ p1 → H3.get j = HH.get j := fun j h1 h2 h3 => (hf3.get j hoA h2 (by omega)).trans (Eq.trans hgA ((hf2.get j hoA h2 h3).trans hgA))) | ((first | (apply vB; (case h => with_reducible assumption)) | (apply vA; (case h => with_reducible assumption)) | (apply vC; (case h => with_reducible assumption))); (case hk => exact kpA); (case he => omega)) | ((first | (apply vI; (case h => with_reducible assumption)) | (apply vG; (case h => with_reducible assumption)) | (apply vK; (case h => with_reducible assumption))); (case hk => exact kpA); (case he => omega); (case hp => omega); (case' g => intro hr_ hc_)) | ((first | (apply vJ; (case h => with_reducible assumption)) | (apply vH; (case h => with_reducible assumption)) | (apply vL; (case h => with_reducible assumption))); (case hk => exact kpA); (case he => omega); (case' g => intro hr_ hc_)) | (apply drawS_auto mixed tt_ok; (· kernel_rfl)) | apply zZ | apply yA | apply yB | ((first | apply zA | apply zC | apply zE | apply zG); (· with_reducible assumption)) | ((first | apply zB | apply zD | apply zF | apply zH); (· with_reducible assumption)) | apply zM | apply zN | apply zO | apply zP | apply zQ | apply zR | apply zS | apply zT | apply zU | (apply zV; (· omega)) | (apply zW; (· omega)) | (apply zX; (· (first | omega | (dsimp only; omega)))) | (apply zY; (try (apply zY; apply zX; (· omega))); apply zX; (· omega); apply zX; (· (first | omega | (dsimp only; omega)))) | ((first | apply yJ | apply yK | apply yL | apply yM | apply yN | apply yO); (· exact hgA); (· exact hsA)) | (apply yNP; (· exact hgA); (· exact hsA)) | ((first | apply zA | apply zC | apply zE | apply zG); (· omega)) | ((first | apply zB | apply zD | apply zF | apply zH); (· omega)) | ((first | apply zI | apply zK); (· with_reducible assumption)) | ((first | apply zJ | apply zL); (· with_reducible assumption)) | fail)
            conv => whnf
            apply Exists.intro (⟨i + 1, _, mb, false, .slice none 0 0, v⟩ : RSt)
            refine ⟨?inv, ?mu, ?wk⟩
            case wk =>
              conv => whnf
              refine weakH_of (HW.refl _) ?_
              repeat' (first | exact WT.nil | refine WT.same ?_ | refine WT.drop ?_ | refine WT.int (by omega) ?_ | refine WT.eq (by assumption) ?_ | refine WT.bl (by first | assumption | (symm; assumption)) ?_ | refine WT.vv (by assumption) ?_)
            case mu => first | omega | (dsimp only; omega)
            case inv => exact ⟨by dsimp only; omega, hfr1.trans ⟨by dsimp only; exact hoA, fun j h1 h2 h3 => Eq.trans hgA (h3f j h1 h2 h3), .inr (.inl rfl)⟩ hmbH hpo, by dsimp only; rw [efo]; exact ⟨hgA, hoA, fun h1 _ => absurd rfl h1, .inl ⟨rfl, rfl, rfl⟩⟩, by dsimp only; rw [efo]; exact ov_keep hov hov2 (by omega) (fun j h1 h2 h3 => Eq.trans hgA (h3f j h1 h2 h3)) hoA⟩
        · skip
          repeat' ((conv => whnf); first | ((first | (apply vB; (case h => with_reducible assumption)) | (apply vA; (case h => with_reducible assumption)) | (apply vC; (case h => with_reducible assumption))); (case hk => exact kpA); (case he => omega)) | ((first | (apply vI; (case h => with_reducible assumption)) | (apply vG; (case h => with_reducible assumption)) | (apply vK; (case h => with_reducible assumption))); (case hk => exact kpA); (case he => omega); (case hp => omega); (case' g => intro hr_ hc_)) | ((first | (apply vJ; (case h => with_reducible assumption)) | (apply vH; (case h => with_reducible assumption)) | (apply vL; (case h => with_reducible assumption))); (case hk => exact kpA); (case he => omega); (case' g => intro hr_ hc_)) | (apply drawS_auto mixed tt_ok; (· kernel_rfl)) | apply zZ | apply yA | apply yB | ((first | apply zA | apply zC | apply zE | apply zG); (· with_reducible assumption)) | ((first | apply zB | apply zD | apply zF | apply zH); (· with_reducible assumption)) | apply zM | apply zN | apply zO | apply zP | apply zQ | apply zR | apply zS | apply zT | apply zU | (apply zV; (· omega)) | (apply zW; (· omega)) | (apply zX; (· (first | omega | (dsimp only; omega)))) | (apply zY; (try (apply zY; apply zX; (· omega))); apply zX; (· omega); apply zX; (· (first | omega | (dsimp only; omega)))) | ((first | apply yJ | apply yK | apply yL | apply yM | apply yN | apply yO); (· exact hgA); (· exact hsA)) | (apply yNP; (· exact hgA); (· exact hsA)) | ((first | apply zA | apply zC | apply zE | apply zG); (· omega)) | ((first | apply zB | apply zD | apply zF | apply zH); (· omega)) | ((first | apply zI | apply zK); (· with_reducible assumption)) | ((first | apply zJ | apply zL); (· with_reducible assumption)) | fail)
          conv => whnf
          refine ⟨?_, ?_⟩
          · skip
            repeat' ((conv => whnf); first | refine take_v hst2 hM1 hok1 hcb2 (fun H2 p2 br2 pv2 hf2 hM2 => ?_); (have hp2 : p2 = p1 ∨ p2 = mb ∨ HH.size ≤ p2 := by have hq := hf2.po; first | omega | (simp at hq; omega)); (have hz2 : HH.size ≤ H2.size := hf2.size); (have hlt2 := hM2.lt); (have hpl2 := hM2.plt) | refine drop_c (hM2.le leA) hok1 hskb (fun H3 hf3 hM3 => ?_); (have hz3 : H2.size + 1 ≤ H3.size := hf3.size); (have hB3 : H3.get H2.size = some (.cells [iv 0, iv 0, iv 0, iv 0, iv 0, .string .empty] true 0) := (hf3.get H2.size hoA hoA hoA).trans hgA); (have g3 := hM3.g); (have h3f : ∀ j, j < HH.size → j ≠ mb → j ≠ p1 → H3.get j = HH.get j := fun j h1 h2 h3 => (hf3.get j hoA h2 (by omega)).trans (Eq.trans hgA (hf2.get j h1 h2 h3))) | ((first | (apply vB; (case h => with_reducible assumption)) | (apply vA; (case h => with_reducible assumption)) | (apply vC; (case h => with_reducible assumption))); (case hk => exact kpA); (case he => omega)) | ((first | (apply vI; (case h => with_reducible assumption)) | (apply vG; (case h => with_reducible assumption)) | (apply vK; (case h => with_reducible assumption))); (case hk => exact kpA); (case he => omega); (case hp => omega); (case' g => intro hr_ hc_)) | ((first | (apply vJ; (case h => with_reducible assumption)) | (apply vH; (case h => with_reducible assumption)) | (apply vL; (case h => with_reducible assumption))); (case hk => exact kpA); (case he => omega); (case' g => intro hr_ hc_)) | (apply drawS_auto mixed tt_ok; (· kernel_rfl)) | apply zZ | apply yA | apply yB | ((first | apply zA | apply zC | apply zE | apply zG); (· with_reducible assumption)) | ((first | apply zB | apply zD | apply zF | apply zH); (· with_reducible assumption)) | apply zM | apply zN | apply zO | apply zP | apply zQ | apply zR | apply zS | apply zT | apply zU | (apply zV; (· omega)) | (apply zW; (· omega)) | (apply zX; (· (first | omega | (dsimp only; omega)))) | (apply zY; (try (apply zY; apply zX; (· omega))); apply zX; (· omega); apply zX; (· (first | omega | (dsimp only; omega)))) | ((first | apply yJ | apply yK | apply yL | apply yM | apply yN | apply yO); (· exact hgA); (· exact hsA)) | (apply yNP; (· exact hgA); (· exact hsA)) | ((first | apply zA | apply zC | apply zE | apply zG); (· omega)) | ((first | apply zB | apply zD | apply zF | apply zH); (· omega)) | ((first | apply zI | apply zK); (· with_reducible assumption)) | ((first | apply zJ | apply zL); (· with_reducible assumption)) | fail)
            conv => whnf
            apply Exists.intro (⟨i + 1, _, mb, false, .slice none 0 0, v⟩ : RSt)
            refine ⟨?inv, ?mu, ?wk⟩
            case wk =>
              conv => whnf
              refine weakH_of (HW.refl _) ?_
              repeat' (first | exact WT.nil | refine WT.same ?_ | refine WT.drop ?_ | refine WT.int (by omega) ?_ | refine WT.eq (by assumption) ?_ | refine WT.bl (by first | assumption | (symm; assumption)) ?_ | refine WT.vv (by assumption) ?_)
            case mu => first | omega | (dsimp only; omega)
            case inv => exact ⟨by dsimp only; omega, hfr1.trans ⟨by dsimp only; exact hoA, fun j h1 h2 h3 => Eq.trans hgA (h3f j h1 h2 h3), .inr (.inl rfl)⟩ hmbH hpo, by dsimp only; rw [efo]; exact ⟨hgA, hoA, fun h1 _ => absurd rfl h1, .inl ⟨rfl, rfl, rfl⟩⟩, by dsimp only; rw [efo]; exact ov_keep hov hov2 (by omega) (fun j h1 h2 h3 => Eq.trans hgA (h3f j h1 h2 h3)) hoA⟩
          · skip
            repeat' ((conv => whnf); first | refine take_v hst2 (hM1.le leA) hok1 hcb2 (fun H2 p2 br2 pv2 hf2 hM2 => ?_); (have hp2 : p2 = p1 ∨ p2 = mb ∨ HH.size ≤ p2 := by have hq := hf2.po; first | omega | (simp at hq; omega)); (have hz2 : HH.size + 1 ≤ H2.size := hf2.size); (have hlt2 := hM2.lt); (have hpl2 := hM2.plt); (have hB : H2.get HH.size = some (.cells [iv 0, iv 0, iv 0, iv 0, iv 0, .string .empty] true 0) := (hf2.get HH.size hoA hoA hoA).trans hgA); (have hpB : p2 ≠ HH.size := by rcases hM2.pt with ⟨_, _, e⟩ | ⟨_, gp, _, _⟩; (· omega); (· intro e; rw [e, hB] at gp; simp at gp)) | refine drop_c (hM2.keep hoA (fun j h1 h2 => hgA)) hok1 hskb (fun H3 hf3 hM3 => ?_); (have hz3 : H2.size ≤ H3.size := hf3.size); (have hB3 : H3.get HH.size = some (.cells [iv 0, iv 0, iv 0, iv 0, iv 0, .string .empty] true 0) := (hf3.get HH.size hoA hoA hoA).trans hgA); (have g3 := hM3.g); (have h3f : ∀ j, j < HH.size → j ≠ mb → j ≠ p1 → H3.get j = HH.get j := fun j h1 h2 h3 => (hf3.get j hoA h2 (by omega)).trans (Eq.trans hgA ((hf2.get j hoA h2 h3).trans hgA))) | ((first | (apply vB; (case h => with_reducible assumption)) | (apply vA; (case h => with_reducible assumption)) | (apply vC; (case h => with_reducible assumption))); (case hk => exact kpA); (case he => omega)) | ((first | (apply vI; (case h => with_reducible assumption)) | (apply vG; (case h => with_reducible assumption)) | (apply vK; (case h => with_reducible assumption))); (case hk => exact kpA); (case he => omega); (case hp => omega); (case' g => intro hr_ hc_)) | ((first | (apply vJ; (case h => with_reducible assumption)) | (apply vH; (case h => with_reducible assumption)) | (apply vL; (case h => with_reducible assumption))); (case hk => exact kpA); (case he => omega); (case' g => intro hr_ hc_)) | (apply drawS_auto mixed tt_ok; (· kernel_rfl)) | apply zZ | apply yA | apply yB | ((first | apply zA | apply zC | apply zE | apply zG); (· with_reducible assumption)) | ((first | apply zB | apply zD | apply zF | apply zH); (· with_reducible assumption)) | apply zM | apply zN | apply zO | apply zP | apply zQ | apply zR | apply zS | apply zT | apply zU | (apply zV; (· omega)) | (apply zW; (· omega)) | (apply zX; (· (first | omega | (dsimp only; omega)))) | (apply zY; (try (apply zY; apply zX; (· omega))); apply zX; (· omega); apply zX; (· (first | omega | (dsimp only; omega)))) | ((first | apply yJ | apply yK | apply yL | apply yM | apply yN | apply yO); (· exact hgA); (· exact hsA)) | (apply yNP; (· exact hgA); (· exact hsA)) | ((first | apply zA | apply zC | apply zE | apply zG); (· omega)) | ((first | apply zB | apply zD | apply zF | apply zH); (· omega)) | ((first | apply zI | apply zK); (· with_reducible assumption)) | ((first | apply zJ | apply zL); (· with_reducible assumption)) | fail)
            conv => whnf
            apply Exists.intro (⟨i + 1, _, mb, false, .slice none 0 0, v⟩ : RSt)
            refine ⟨?inv, ?mu, ?wk⟩
            case wk =>
              conv => whnf
              refine weakH_of (HW.refl _) ?_
              repeat' (first | exact WT.nil | refine WT.same ?_ | refine WT.drop ?_ | refine WT.int (by omega) ?_ | refine WT.eq (by assumption) ?_ | refine WT.bl (by first | assumption | (symm; assumption)) ?_ | refine WT.vv (by assumption) ?_)
            case mu => first | omega | (dsimp only; omega)
            case inv => exact ⟨by dsimp only; omega, hfr1.trans ⟨by dsimp only; exact hoA, fun j h1 h2 h3 => Eq.trans hgA (h3f j h1 h2 h3), .inr (.inl rfl)⟩ hmbH hpo, by dsimp only; rw [efo]; exact ⟨hgA, hoA, fun h1 _ => absurd rfl h1, .inl ⟨rfl, rfl, rfl⟩⟩, by dsimp only; rw [efo]; exact ov_keep hov hov2 (by omega) (fun j h1 h2 h3 => Eq.trans hgA (h3f j h1 h2 h3)) hoA⟩
  · have hin2 : i = s.size := by omega
    subst hin2
    repeat' ((conv => whnf); first | ((first | (apply vB; (case h => with_reducible assumption)) | (apply vA; (case h => with_reducible assumption)) | (apply vC; (case h => with_reducible assumption))); (case hk => exact kpA); (case he => omega)) | ((first | (apply vI; (case h => with_reducible assumption)) | (apply vG; (case h => with_reducible assumption)) | (apply vK; (case h => with_reducible assumption))); (case hk => exact kpA); (case he => omega); (case hp => omega); (case' g => intro hr_ hc_)) | ((first | (apply vJ; (case h => with_reducible assumption)) | (apply vH; (case h => with_reducible assumption)) | (apply vL; (case h => with_reducible assumption))); (case hk => exact kpA); (case he => omega); (case' g => intro hr_ hc_)) | (apply drawS_auto mixed tt_ok; (· kernel_rfl)) | apply zZ | apply yA | apply yB | ((first | apply zA | apply zC | apply zE | apply zG); (· with_reducible assumption)) | ((first | apply zB | apply zD | apply zF | apply zH); (· with_reducible assumption)) | apply zM | apply zN | apply zO | apply zP | apply zQ | apply zR | apply zS | apply zT | apply zU | (apply zV; (· omega)) | (apply zW; (· omega)) | (apply zX; (· (first | omega | (dsimp only; omega)))) | (apply zY; (try (apply zY; apply zX; (· omega))); apply zX; (· omega); apply zX; (· (first | omega | (dsimp only; omega)))) | ((first | apply yJ | apply yK | apply yL | apply yM | apply yN | apply yO); (· exact hgA); (· exact hsA)) | (apply yNP; (· exact hgA); (· exact hsA)) | ((first | apply zA | apply zC | apply zE | apply zG); (· omega)) | ((first | apply zB | apply zD | apply zF | apply zH); (· omega)) | ((first | apply zI | apply zK); (· with_reducible assumption)) | ((first | apply zJ | apply zL); (· with_reducible assumption)) | fail)
    conv => whnf
    exact h HH p1 br1 pv1 v hfr1 hM1 hov
end
end Go.Abs
