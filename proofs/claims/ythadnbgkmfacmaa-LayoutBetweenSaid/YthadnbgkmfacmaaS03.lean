/- Contracts of the program's Between. No conditions beyond those stated. -/
import Derived.Test.YthadnbgkmfacmaaQ03
set_option linter.all false
set_option maxHeartbeats 2000000
set_option maxRecDepth 20000
namespace Go.Abs
open Go Go.Proofs

def servW (to : List Int) (w : Way) : Bool := w.1.all fun q => decide (q ∈ to)
def pickW (to : List Int) (p : Int) (lfe : Bool) : Option Way := (([p], 65536) :: waysL p lfe).find? (servW to)
def betF (fr to : List Int) (lfe : Bool) (a c : Nat) : Int := match pickW to (fr.getD c 0) lfe with | some w => if to.getD a 0 ∈ w.1 then w.2 else 0 | none => 0
def betE (fr to : List Int) : Int := if layB fr = true ∧ layB to = true then 0 else 1
def betM (fr to : List Int) (lfe : Bool) : List (List Int) := if betE fr to = 0 then matF (betF fr to lfe) to.length fr.length else []
theorem way_one {p : Int} (hp : 1 ≤ p ∧ p ≤ 10) : wayOk ([p], 65536) := ⟨by simp, by simp, fun x hx => by
  have : x = p := by simpa using hx
  omega, (by decide : (0 : Int) ≤ 65536), (by decide : (65536 : Int) ≤ 65536)⟩
theorem pick_ok {to : List Int} {p : Int} {lfe : Bool} {w : Way} (hp : 1 ≤ p ∧ p ≤ 10) (h : pickW to p lfe = some w) : wayOk w := by
  have hm := List.mem_of_find?_eq_some h
  rcases List.mem_cons.1 hm with rfl | hm
  · exact way_one hp
  · exact (ways_ok lfe hp).2 w hm
theorem betF_bd {fr to : List Int} {lfe : Bool} (hf : ∀ x ∈ fr, 1 ≤ x ∧ x ≤ 10) {a c : Nat} (hc : c < fr.length) : 0 ≤ betF fr to lfe a c ∧ betF fr to lfe a c ≤ 65536 := by
  unfold betF
  rw [show fr.getD c 0 = fr[c] by simp [List.getD, hc]]
  split
  · rename_i w hw
    have := pick_ok (hf _ (List.getElem_mem hc)) hw
    split
    · exact ⟨this.2.2.2.1, this.2.2.2.2⟩
    · omega
  · omega
theorem pick_in {to : List Int} {p : Int} {lfe : Bool} (h : p ∈ to) : pickW to p lfe = some ([p], 65536) := by
  have : servW to ([p], 65536) = true := by simp [servW, h]
  unfold pickW
  rw [List.find?_cons, this]
theorem pick_out {to : List Int} {p : Int} {lfe : Bool} (h : p ∉ to) : pickW to p lfe = (waysL p lfe).find? (servW to) := by
  have : servW to ([p], 65536) = false := by simp [servW, h]
  unfold pickW
  rw [List.find?_cons, this]
theorem find_at : ∀ {ws : List Way} {f : Way → Bool} {j : Nat} (hj : j < ws.length), (∀ w ∈ ws.take j, f w = false) → f ws[j] = true → ws.find? f = some ws[j]
  | w :: ws, f, 0, _, _, h => by
    have h : f w = true := h
    rw [List.find?_cons, h]; rfl
  | w :: ws, f, j + 1, hj, hb, h => by
    have h0 := hb w (by simp)
    rw [List.find?_cons, h0]
    exact find_at (j := j) (by simpa using hj) (fun x hx => hb x (by simp [hx])) h
theorem find_none {ws : List Way} {f : Way → Bool} (h : ∀ w ∈ ws, f w = false) : ws.find? f = none := List.find?_eq_none.2 fun x hx => by rw [h x hx]; decide
theorem posI_ex {xs : List Int} {v : Int} (h : v ∈ xs) : ∃ r, ∃ hr : r < xs.length, posI xs v = r ∧ xs[r] = v :=
  ⟨xs.idxOf v, List.idxOf_lt_length_of_mem h, posI_in h, List.getElem_idxOf _⟩
theorem bet_aux {g : Nat → Nat → Int} {to : List Int} {w : Way} {k n r a c : Nat} (hn : n < w.1.length) (hr : r < to.length) (hq : to[r] = w.1[n]) (hnd : to.Nodup) (ha : a < to.length) :
    (if a = r ∧ c = k then w.2 else if c < k then g a c else if c = k ∧ to.getD a 0 ∈ w.1.take n then w.2 else 0) = if c < k then g a c else if c = k ∧ to.getD a 0 ∈ w.1.take (n + 1) then w.2 else 0 := by
  rw [take_succ_of hn, show to.getD a 0 = to[a] by simp [List.getD, ha]]
  by_cases hc : c = k
  · subst hc
    rw [if_neg (Nat.lt_irrefl _), if_neg (Nat.lt_irrefl _)]
    by_cases har : a = r
    · subst har
      rw [if_pos ⟨rfl, rfl⟩, if_pos ⟨rfl, List.mem_append.2 (.inr (by rw [List.mem_singleton]; exact hq))⟩]
    · rw [if_neg (fun h => har h.1)]
      have hne : to[a] ≠ w.1[n] := fun e => har ((List.getElem_inj hnd).1 (e.trans hq.symm))
      have : (to[a] ∈ w.1.take n ++ [w.1[n]]) ↔ to[a] ∈ w.1.take n := by
        rw [List.mem_append, List.mem_singleton]
        exact ⟨fun h => h.elim id (fun e => absurd e hne), .inl⟩
      simp only [this]
  · rw [if_neg (fun h => hc h.2)]
    by_cases h2 : c < k
    · rw [if_pos h2, if_pos h2]
    · rw [if_neg h2, if_neg h2, if_neg (fun h => hc h.1), if_neg (fun h => hc h.1)]
theorem bet_next {fr to : List Int} {lfe : Bool} {k a c : Nat} {w : Way} (hk : k < fr.length) (hp : pickW to fr[k] lfe = some w) :
    (if c < k then betF fr to lfe a c else if c = k ∧ to.getD a 0 ∈ w.1 then w.2 else 0) = if c < k + 1 then betF fr to lfe a c else 0 := by
  by_cases h1 : c < k
  · rw [if_pos h1, if_pos (by omega)]
  · rw [if_neg h1]
    by_cases h2 : c = k
    · subst h2
      have e : betF fr to lfe a c = if to.getD a 0 ∈ w.1 then w.2 else 0 := by
        unfold betF
        rw [show fr.getD c 0 = fr[c] by simp [List.getD, hk], hp]
      rw [if_pos (show c < c + 1 by omega), e]
      by_cases h3 : to.getD a 0 ∈ w.1
      · rw [if_pos ⟨rfl, h3⟩, if_pos h3]
      · rw [if_neg (fun h => h3 h.2), if_neg h3]
    · rw [if_neg (fun h => h2 h.1), if_neg (by omega)]
theorem bet_none {fr to : List Int} {lfe : Bool} {k a c : Nat} (hk : k < fr.length) (hp : pickW to fr[k] lfe = none) :
    (if c < k then betF fr to lfe a c else 0) = if c < k + 1 then betF fr to lfe a c else 0 := by
  by_cases h1 : c < k
  · rw [if_pos h1, if_pos (by omega)]
  · rw [if_neg h1]
    by_cases h2 : c = k
    · subst h2
      rw [if_pos (by omega)]
      unfold betF
      rw [show fr.getD c 0 = fr[c] by simp [List.getD, hk], hp]
    · rw [if_neg (by omega)]
theorem none_snoc {ws : List Way} {p : Way → Bool} {k : Nat} (hlt : k < ws.length) (hany : ∀ w ∈ ws.take k, p w = false) (hp : p ws[k] = false) : ∀ w ∈ ws.take (k + 1), p w = false := fun w hw => by
  rw [take_succ_of hlt] at hw
  rcases List.mem_append.1 hw with hw | hw
  · exact hany w hw
  · rw [List.mem_singleton] at hw
    subst hw
    exact hp
theorem load_spread {H : AHeap} {i : Nat} {p : Int} {K : Value → Prop} (g : H.get i = some (.cells spreadsV true 1)) (hp : 1 ≤ p ∧ p ≤ 10) (hk : K (fnV (spreadF p))) : loadK H i (0 + p.toNat * 1) K := loadK_get g (spread_at hp) hk
theorem callS_frz {fv : Value} {args : List Value} {H : AHeap} {K : CK} (base : Nat) (h : ∀ Hf, Hf = H.fz base → callS P fv args Hf K) : callS P fv args H K := callS_pre (HW.fz _ base) (h _ rfl)
theorem indexWay_c {a : Option Addr} {c : Nat} {fv : Value} {ws : List Way} {p : Way → Bool} {H : AHeap} {K : CK} (hx : Ways H a ws)
    (hf : ∀ w ∈ ws, ∀ ri cap, Row H (some ⟨ri, 0, none⟩) w.1 → ∀ K : CK, K (.returned (.bool (p w))) H → callS P fv [.agg ⟨[.slice (some ⟨ri, 0, none⟩) w.1.length cap, iv w.2]⟩] H K)
    (h1 : ∀ (k : Nat) (_ : k < ws.length), (∀ w ∈ ws.take k, p w = false) → p ws[k] = true → K (.returned (iv k)) H) (h2 : (∀ w ∈ ws, p w = false) → K (.returned (iv (-1))) H) :
    callS P (fnV 55) [.slice a ws.length c, fv] H K := by
  have hl := hx.len
  refine callS_walk tt_ok Try.func55 rfl (by kernel_rfl) ?_
  conv => whnf
  repeat' ((conv => whnf); first | ((first | (apply vB; (case h => with_reducible assumption)) | (apply vA; (case h => with_reducible assumption)) | (apply vC; (case h => with_reducible assumption))); (case hk => exact kpA); (case he => omega)) | ((first | (apply vI; (case h => with_reducible assumption)) | (apply vG; (case h => with_reducible assumption)) | (apply vK; (case h => with_reducible assumption))); (case hk => exact kpA); (case he => omega); (case hp => omega); (case' g => intro hr_ hc_)) | ((first | (apply vJ; (case h => with_reducible assumption)) | (apply vH; (case h => with_reducible assumption)) | (apply vL; (case h => with_reducible assumption))); (case hk => exact kpA); (case he => omega); (case' g => intro hr_ hc_)) | apply yA | apply yB | ((first | apply zA | apply zC | apply zE | apply zG); (· with_reducible assumption)) | ((first | apply zB | apply zD | apply zF | apply zH); (· with_reducible assumption)) | apply zM | apply zN | apply zO | apply zP | apply zQ | apply zR | apply zS | apply zT | apply zU | (apply zV; (· omega)) | (apply zW; (· omega)) | (apply zX; (· (first | omega | (dsimp only; omega)))) | (apply zY; (try (apply zY; apply zX; (· omega))); apply zX; (· omega); apply zX; (· (first | omega | (dsimp only; omega)))) | ((first | apply yJ | apply yK | apply yL | apply yM | apply yN | apply yO); (· exact hgA); (· exact hsA)) | (apply yNP; (· exact hgA); (· exact hsA)) | ((first | apply zA | apply zC | apply zE | apply zG); (· omega)) | ((first | apply zB | apply zD | apply zF | apply zH); (· omega)) | ((first | apply zI | apply zK); (· with_reducible assumption)) | ((first | apply zJ | apply zL); (· with_reducible assumption)) | fail)
  conv => whnf
  refine loopS_mask tt_ok (fun (k : Nat) => [.k, .k, .w, .w, .w, .w, .w, .k, .p (iv k), .w, .w, .w, .w, .w, .w, .w, .w, .w, .w]) (fun (k : Nat) => H) (fun (k : Nat) => k ≤ ws.length ∧ ∀ w ∈ ws.take k, p w = false) (fun (k : Nat) => ws.length - k) (0) (⟨by omega, by simp⟩) ?_ (fun k hk => ?_)
  · conv => whnf
    refine weakH_of (HW.refl _) ?_
    repeat' (first | exact WT.nil | refine WT.same ?_ | refine WT.drop ?_ | refine WT.int (by omega) ?_ | refine WT.eq (by assumption) ?_ | refine WT.bl (by first | assumption | (symm; assumption)) ?_ | refine WT.vv (by assumption) ?_)
  obtain ⟨hk, hany⟩ := hk
  by_cases hlt : k < ws.length
  · obtain ⟨i, o, rfl⟩ := hx.at hlt
    repeat' ((conv => whnf); first | (refine way_all hx ?_ hlt (fun ri cap hr => ?_); (· exact kpA)) | (refine hf ws[k] (List.getElem_mem _) _ _ ?_ _ ?_; (· assumption)) | ((first | (apply vB; (case h => with_reducible assumption)) | (apply vA; (case h => with_reducible assumption)) | (apply vC; (case h => with_reducible assumption))); (case hk => exact kpA); (case he => omega)) | ((first | (apply vI; (case h => with_reducible assumption)) | (apply vG; (case h => with_reducible assumption)) | (apply vK; (case h => with_reducible assumption))); (case hk => exact kpA); (case he => omega); (case hp => omega); (case' g => intro hr_ hc_)) | ((first | (apply vJ; (case h => with_reducible assumption)) | (apply vH; (case h => with_reducible assumption)) | (apply vL; (case h => with_reducible assumption))); (case hk => exact kpA); (case he => omega); (case' g => intro hr_ hc_)) | apply yA | apply yB | ((first | apply zA | apply zC | apply zE | apply zG); (· with_reducible assumption)) | ((first | apply zB | apply zD | apply zF | apply zH); (· with_reducible assumption)) | apply zM | apply zN | apply zO | apply zP | apply zQ | apply zR | apply zS | apply zT | apply zU | (apply zV; (· omega)) | (apply zW; (· omega)) | (apply zX; (· (first | omega | (dsimp only; omega)))) | (apply zY; (try (apply zY; apply zX; (· omega))); apply zX; (· omega); apply zX; (· (first | omega | (dsimp only; omega)))) | ((first | apply yJ | apply yK | apply yL | apply yM | apply yN | apply yO); (· exact hgA); (· exact hsA)) | (apply yNP; (· exact hgA); (· exact hsA)) | ((first | apply zA | apply zC | apply zE | apply zG); (· omega)) | ((first | apply zB | apply zD | apply zF | apply zH); (· omega)) | ((first | apply zI | apply zK); (· with_reducible assumption)) | ((first | apply zJ | apply zL); (· with_reducible assumption)) | fail)
    conv => whnf
    refine condK_of (fun hp => ?_) (fun hp => ?_)
    · skip
      repeat' ((conv => whnf); first | ((first | (apply vB; (case h => with_reducible assumption)) | (apply vA; (case h => with_reducible assumption)) | (apply vC; (case h => with_reducible assumption))); (case hk => exact kpA); (case he => omega)) | ((first | (apply vI; (case h => with_reducible assumption)) | (apply vG; (case h => with_reducible assumption)) | (apply vK; (case h => with_reducible assumption))); (case hk => exact kpA); (case he => omega); (case hp => omega); (case' g => intro hr_ hc_)) | ((first | (apply vJ; (case h => with_reducible assumption)) | (apply vH; (case h => with_reducible assumption)) | (apply vL; (case h => with_reducible assumption))); (case hk => exact kpA); (case he => omega); (case' g => intro hr_ hc_)) | apply yA | apply yB | ((first | apply zA | apply zC | apply zE | apply zG); (· with_reducible assumption)) | ((first | apply zB | apply zD | apply zF | apply zH); (· with_reducible assumption)) | apply zM | apply zN | apply zO | apply zP | apply zQ | apply zR | apply zS | apply zT | apply zU | (apply zV; (· omega)) | (apply zW; (· omega)) | (apply zX; (· (first | omega | (dsimp only; omega)))) | (apply zY; (try (apply zY; apply zX; (· omega))); apply zX; (· omega); apply zX; (· (first | omega | (dsimp only; omega)))) | ((first | apply yJ | apply yK | apply yL | apply yM | apply yN | apply yO); (· exact hgA); (· exact hsA)) | (apply yNP; (· exact hgA); (· exact hsA)) | ((first | apply zA | apply zC | apply zE | apply zG); (· omega)) | ((first | apply zB | apply zD | apply zF | apply zH); (· omega)) | ((first | apply zI | apply zK); (· with_reducible assumption)) | ((first | apply zJ | apply zL); (· with_reducible assumption)) | fail)
      conv => whnf
      exact h1 k hlt hany hp
    · skip
      repeat' ((conv => whnf); first | ((first | (apply vB; (case h => with_reducible assumption)) | (apply vA; (case h => with_reducible assumption)) | (apply vC; (case h => with_reducible assumption))); (case hk => exact kpA); (case he => omega)) | ((first | (apply vI; (case h => with_reducible assumption)) | (apply vG; (case h => with_reducible assumption)) | (apply vK; (case h => with_reducible assumption))); (case hk => exact kpA); (case he => omega); (case hp => omega); (case' g => intro hr_ hc_)) | ((first | (apply vJ; (case h => with_reducible assumption)) | (apply vH; (case h => with_reducible assumption)) | (apply vL; (case h => with_reducible assumption))); (case hk => exact kpA); (case he => omega); (case' g => intro hr_ hc_)) | apply yA | apply yB | ((first | apply zA | apply zC | apply zE | apply zG); (· with_reducible assumption)) | ((first | apply zB | apply zD | apply zF | apply zH); (· with_reducible assumption)) | apply zM | apply zN | apply zO | apply zP | apply zQ | apply zR | apply zS | apply zT | apply zU | (apply zV; (· omega)) | (apply zW; (· omega)) | (apply zX; (· (first | omega | (dsimp only; omega)))) | (apply zY; (try (apply zY; apply zX; (· omega))); apply zX; (· omega); apply zX; (· (first | omega | (dsimp only; omega)))) | ((first | apply yJ | apply yK | apply yL | apply yM | apply yN | apply yO); (· exact hgA); (· exact hsA)) | (apply yNP; (· exact hgA); (· exact hsA)) | ((first | apply zA | apply zC | apply zE | apply zG); (· omega)) | ((first | apply zB | apply zD | apply zF | apply zH); (· omega)) | ((first | apply zI | apply zK); (· with_reducible assumption)) | ((first | apply zJ | apply zL); (· with_reducible assumption)) | fail)
      conv => whnf
      refine ⟨k + 1, ⟨by omega, none_snoc hlt hany hp⟩, by omega, ?_⟩
      conv => whnf
      refine weakH_of (HW.refl _) ?_
      repeat' (first | exact WT.nil | refine WT.same ?_ | refine WT.drop ?_ | refine WT.int (by omega) ?_ | refine WT.eq (by assumption) ?_ | refine WT.bl (by first | assumption | (symm; assumption)) ?_ | refine WT.vv (by assumption) ?_)
  · rw [List.take_of_length_le (by omega)] at hany
    repeat' ((conv => whnf); first | ((first | (apply vB; (case h => with_reducible assumption)) | (apply vA; (case h => with_reducible assumption)) | (apply vC; (case h => with_reducible assumption))); (case hk => exact kpA); (case he => omega)) | ((first | (apply vI; (case h => with_reducible assumption)) | (apply vG; (case h => with_reducible assumption)) | (apply vK; (case h => with_reducible assumption))); (case hk => exact kpA); (case he => omega); (case hp => omega); (case' g => intro hr_ hc_)) | ((first | (apply vJ; (case h => with_reducible assumption)) | (apply vH; (case h => with_reducible assumption)) | (apply vL; (case h => with_reducible assumption))); (case hk => exact kpA); (case he => omega); (case' g => intro hr_ hc_)) | apply yA | apply yB | ((first | apply zA | apply zC | apply zE | apply zG); (· with_reducible assumption)) | ((first | apply zB | apply zD | apply zF | apply zH); (· with_reducible assumption)) | apply zM | apply zN | apply zO | apply zP | apply zQ | apply zR | apply zS | apply zT | apply zU | (apply zV; (· omega)) | (apply zW; (· omega)) | (apply zX; (· (first | omega | (dsimp only; omega)))) | (apply zY; (try (apply zY; apply zX; (· omega))); apply zX; (· omega); apply zX; (· (first | omega | (dsimp only; omega)))) | ((first | apply yJ | apply yK | apply yL | apply yM | apply yN | apply yO); (· exact hgA); (· exact hsA)) | (apply yNP; (· exact hgA); (· exact hsA)) | ((first | apply zA | apply zC | apply zE | apply zG); (· omega)) | ((first | apply zB | apply zD | apply zF | apply zH); (· omega)) | ((first | apply zI | apply zK); (· with_reducible assumption)) | ((first | apply zJ | apply zL); (· with_reducible assumption)) | fail)
    conv => whnf
    exact h2 hany
theorem way1_c {b4 c : Nat} {a : Option Addr} {to : List Int} {x : Int} {H : AHeap} {K : CK} (hto : Row H a to) (g : H.get b4 = some (.cells [.slice a to.length c] true 0)) (h : K (.returned (.bool (!decide (x ∈ to)))) H) :
    callS P (.func (.func 58) #[] #[.pointer (some ⟨b4, 0, none⟩)]) [iv x] H K := by
  refine callS_walk tt_ok Try.func58 rfl (by kernel_rfl) ?_
  conv => whnf
  repeat' ((conv => whnf); first | refine containsI_v hto rfl rfl ?_ | ((first | (apply vB; (case h => with_reducible assumption)) | (apply vA; (case h => with_reducible assumption)) | (apply vC; (case h => with_reducible assumption))); (case hk => exact kpA); (case he => omega)) | ((first | (apply vI; (case h => with_reducible assumption)) | (apply vG; (case h => with_reducible assumption)) | (apply vK; (case h => with_reducible assumption))); (case hk => exact kpA); (case he => omega); (case hp => omega); (case' g => intro hr_ hc_)) | ((first | (apply vJ; (case h => with_reducible assumption)) | (apply vH; (case h => with_reducible assumption)) | (apply vL; (case h => with_reducible assumption))); (case hk => exact kpA); (case he => omega); (case' g => intro hr_ hc_)) | apply yA | apply yB | ((first | apply zA | apply zC | apply zE | apply zG); (· with_reducible assumption)) | ((first | apply zB | apply zD | apply zF | apply zH); (· with_reducible assumption)) | apply zM | apply zN | apply zO | apply zP | apply zQ | apply zR | apply zS | apply zT | apply zU | (apply zV; (· omega)) | (apply zW; (· omega)) | (apply zX; (· (first | omega | (dsimp only; omega)))) | (apply zY; (try (apply zY; apply zX; (· omega))); apply zX; (· omega); apply zX; (· (first | omega | (dsimp only; omega)))) | ((first | apply yJ | apply yK | apply yL | apply yM | apply yN | apply yO); (· exact hgA); (· exact hsA)) | (apply yNP; (· exact hgA); (· exact hsA)) | ((first | apply zA | apply zC | apply zE | apply zG); (· omega)) | ((first | apply zB | apply zD | apply zF | apply zH); (· omega)) | ((first | apply zI | apply zK); (· with_reducible assumption)) | ((first | apply zJ | apply zL); (· with_reducible assumption)) | fail)
  conv => whnf
  exact h
theorem served_c {b4 c ri cap : Nat} {a : Option Addr} {to : List Int} {w : Way} {H : AHeap} {K : CK} (hto : Row H a to) (hb : b4 < H.size) (g : H.get b4 = some (.cells [.slice a to.length c] true 0)) (hr : Row H (some ⟨ri, 0, none⟩) w.1) (h : K (.returned (.bool (servW to w))) H) :
    callS P (.func (.func 56) #[] #[.pointer (some ⟨b4, 0, none⟩)]) [.agg ⟨[.slice (some ⟨ri, 0, none⟩) w.1.length cap, iv w.2]⟩] H K := by
  refine callS_forget ?_
  refine callS_walk tt_ok Try.func56 rfl (by kernel_rfl) ?_
  conv => whnf
  repeat' ((conv => whnf); first | refine containsRow_c (p := fun q => !decide (q ∈ to)) (hr.kp kpA) (fun x _ K hK => way1_c (b4 := b4) (hto.kp kpA) hgA hK) ?_ | ((first | (apply vB; (case h => with_reducible assumption)) | (apply vA; (case h => with_reducible assumption)) | (apply vC; (case h => with_reducible assumption))); (case hk => exact kpA); (case he => omega)) | ((first | (apply vI; (case h => with_reducible assumption)) | (apply vG; (case h => with_reducible assumption)) | (apply vK; (case h => with_reducible assumption))); (case hk => exact kpA); (case he => omega); (case hp => omega); (case' g => intro hr_ hc_)) | ((first | (apply vJ; (case h => with_reducible assumption)) | (apply vH; (case h => with_reducible assumption)) | (apply vL; (case h => with_reducible assumption))); (case hk => exact kpA); (case he => omega); (case' g => intro hr_ hc_)) | apply yA | apply yB | ((first | apply zA | apply zC | apply zE | apply zG); (· with_reducible assumption)) | ((first | apply zB | apply zD | apply zF | apply zH); (· with_reducible assumption)) | apply zM | apply zN | apply zO | apply zP | apply zQ | apply zR | apply zS | apply zT | apply zU | (apply zV; (· omega)) | (apply zW; (· omega)) | (apply zX; (· (first | omega | (dsimp only; omega)))) | (apply zY; (try (apply zY; apply zX; (· omega))); apply zX; (· omega); apply zX; (· (first | omega | (dsimp only; omega)))) | ((first | apply yJ | apply yK | apply yL | apply yM | apply yN | apply yO); (· exact hgA); (· exact hsA)) | (apply yNP; (· exact hgA); (· exact hsA)) | ((first | apply zA | apply zC | apply zE | apply zG); (· omega)) | ((first | apply zB | apply zD | apply zF | apply zH); (· omega)) | ((first | apply zI | apply zK); (· with_reducible assumption)) | ((first | apply zJ | apply zL); (· with_reducible assumption)) | fail)
  conv => whnf
  refine ⟨leA, _, rfl, rfl, ?_⟩
  have e : (!(w.1.any fun q => !decide (q ∈ to))) = servW to w := by unfold servW; simp [List.any_eq_not_all_not]
  rw [e]
  exact h
theorem betP_c {p q : Option Addr} {c1 c2 : Nat} {fr to : List Int} {lfe : Bool} {H : AHeap} {K : CK} (hf : Row H p fr) (ht : Row H q to) (hc1 : CapOk p fr.length c1) (hc2 : CapOk q to.length c2)
    (h : ∀ H' p' c', H.le H' → Mat H' p' (betM fr to lfe) → K (.returned (.tuple #[.slice p' (betM fr to lfe).length c', iv (betE fr to)])) H') : callS P (fnV 22) [.slice p fr.length c1, .slice q to.length c2, .bool lfe] H K := by
  have bad_ : betE fr to = 1 → ∀ H', H.le H' → K (.returned (.tuple #[.slice none 0 0, iv 1])) H' := fun he H' hle => by
    have hM : betM fr to lfe = [] := by unfold betM; rw [he]; rfl
    have := h H' none 0 hle (by rw [hM]; exact .nil)
    rw [hM, he] at this; exact this
  cases hvf : layB fr with
  | false =>
    have hE : betE fr to = 1 := by simp [betE, hvf]
    refine callS_walk tt_ok Try.func22 rfl (by kernel_rfl) ?_
    conv => whnf
    repeat' ((conv => whnf); first | refine layP_v (b := false) (hf.kp kpA) hc1 hvf ?_ | ((first | (apply vB; (case h => with_reducible assumption)) | (apply vA; (case h => with_reducible assumption)) | (apply vC; (case h => with_reducible assumption))); (case hk => exact kpA); (case he => omega)) | ((first | (apply vI; (case h => with_reducible assumption)) | (apply vG; (case h => with_reducible assumption)) | (apply vK; (case h => with_reducible assumption))); (case hk => exact kpA); (case he => omega); (case hp => omega); (case' g => intro hr_ hc_)) | ((first | (apply vJ; (case h => with_reducible assumption)) | (apply vH; (case h => with_reducible assumption)) | (apply vL; (case h => with_reducible assumption))); (case hk => exact kpA); (case he => omega); (case' g => intro hr_ hc_)) | (apply drawS_auto mixed tt_ok; (· kernel_rfl)) | apply zZ | apply yA | apply yB | ((first | apply zA | apply zC | apply zE | apply zG); (· with_reducible assumption)) | ((first | apply zB | apply zD | apply zF | apply zH); (· with_reducible assumption)) | apply zM | apply zN | apply zO | apply zP | apply zQ | apply zR | apply zS | apply zT | apply zU | (apply zV; (· omega)) | (apply zW; (· omega)) | (apply zX; (· (first | omega | (dsimp only; omega)))) | (apply zY; (try (apply zY; apply zX; (· omega))); apply zX; (· omega); apply zX; (· (first | omega | (dsimp only; omega)))) | ((first | apply yJ | apply yK | apply yL | apply yM | apply yN | apply yO); (· exact hgA); (· exact hsA)) | (apply yNP; (· exact hgA); (· exact hsA)) | ((first | apply zA | apply zC | apply zE | apply zG); (· omega)) | ((first | apply zB | apply zD | apply zF | apply zH); (· omega)) | ((first | apply zI | apply zK); (· with_reducible assumption)) | ((first | apply zJ | apply zL); (· with_reducible assumption)) | fail)
    conv => whnf
    exact bad_ hE _ leA
  | true =>
    cases hvt : layB to with
    | false =>
      have hE : betE fr to = 1 := by simp [betE, hvt]
      refine callS_walk tt_ok Try.func22 rfl (by kernel_rfl) ?_
      conv => whnf
      repeat' ((conv => whnf); first | refine layP_v (b := true) (hf.kp kpA) hc1 hvf ?_ | refine layP_v (b := false) (ht.kp kpA) hc2 hvt ?_ | ((first | (apply vB; (case h => with_reducible assumption)) | (apply vA; (case h => with_reducible assumption)) | (apply vC; (case h => with_reducible assumption))); (case hk => exact kpA); (case he => omega)) | ((first | (apply vI; (case h => with_reducible assumption)) | (apply vG; (case h => with_reducible assumption)) | (apply vK; (case h => with_reducible assumption))); (case hk => exact kpA); (case he => omega); (case hp => omega); (case' g => intro hr_ hc_)) | ((first | (apply vJ; (case h => with_reducible assumption)) | (apply vH; (case h => with_reducible assumption)) | (apply vL; (case h => with_reducible assumption))); (case hk => exact kpA); (case he => omega); (case' g => intro hr_ hc_)) | (apply drawS_auto mixed tt_ok; (· kernel_rfl)) | apply zZ | apply yA | apply yB | ((first | apply zA | apply zC | apply zE | apply zG); (· with_reducible assumption)) | ((first | apply zB | apply zD | apply zF | apply zH); (· with_reducible assumption)) | apply zM | apply zN | apply zO | apply zP | apply zQ | apply zR | apply zS | apply zT | apply zU | (apply zV; (· omega)) | (apply zW; (· omega)) | (apply zX; (· (first | omega | (dsimp only; omega)))) | (apply zY; (try (apply zY; apply zX; (· omega))); apply zX; (· omega); apply zX; (· (first | omega | (dsimp only; omega)))) | ((first | apply yJ | apply yK | apply yL | apply yM | apply yN | apply yO); (· exact hgA); (· exact hsA)) | (apply yNP; (· exact hgA); (· exact hsA)) | ((first | apply zA | apply zC | apply zE | apply zG); (· omega)) | ((first | apply zB | apply zD | apply zF | apply zH); (· omega)) | ((first | apply zI | apply zK); (· with_reducible assumption)) | ((first | apply zJ | apply zL); (· with_reducible assumption)) | fail)
      conv => whnf
      exact bad_ hE _ leA
    | true =>
      have hE : betE fr to = 0 := by simp [betE, hvf, hvt]
      have hM : betM fr to lfe = matF (betF fr to lfe) to.length fr.length := by rw [betM, if_pos hE]
      rw [hE, hM, matF_len] at h
      obtain ⟨⟨hf1, hf8⟩, hfr, hfd⟩ := layB_t hvf
      obtain ⟨⟨ht1, ht8⟩, htr, htd⟩ := layB_t hvt
      obtain ⟨i0, off0, rfl⟩ := hf.at (k := 0) (by omega)
      obtain ⟨i1, off1, rfl⟩ := ht.at (k := 0) (by omega)
      refine callS_post ?_
      refine callS_walk tt_ok Try.func22 rfl (by kernel_rfl) ?_
      conv => whnf
      repeat' ((conv => whnf); first | refine layP_v (b := true) (hf.kp kpA) hc1 hvf ?_ | refine layP_v (b := true) (ht.kp kpA) hc2 hvt ?_ | refine empty_c (n := to.length) (m := fr.length) ⟨by omega, by omega⟩ (fun H1 o rs hle1 hom => ?_); (have hs1 : H.size + 1 ≤ H1.size := hle1.size) | ((first | (apply vB; (case h => with_reducible assumption)) | (apply vA; (case h => with_reducible assumption)) | (apply vC; (case h => with_reducible assumption))); (case hk => exact kpA); (case he => omega)) | ((first | (apply vI; (case h => with_reducible assumption)) | (apply vG; (case h => with_reducible assumption)) | (apply vK; (case h => with_reducible assumption))); (case hk => exact kpA); (case he => omega); (case hp => omega); (case' g => intro hr_ hc_)) | ((first | (apply vJ; (case h => with_reducible assumption)) | (apply vH; (case h => with_reducible assumption)) | (apply vL; (case h => with_reducible assumption))); (case hk => exact kpA); (case he => omega); (case' g => intro hr_ hc_)) | (apply drawS_auto mixed tt_ok; (· kernel_rfl)) | apply zZ | apply yA | apply yB | ((first | apply zA | apply zC | apply zE | apply zG); (· with_reducible assumption)) | ((first | apply zB | apply zD | apply zF | apply zH); (· with_reducible assumption)) | apply zM | apply zN | apply zO | apply zP | apply zQ | apply zR | apply zS | apply zT | apply zU | (apply zV; (· omega)) | (apply zW; (· omega)) | (apply zX; (· (first | omega | (dsimp only; omega)))) | (apply zY; (try (apply zY; apply zX; (· omega))); apply zX; (· omega); apply zX; (· (first | omega | (dsimp only; omega)))) | ((first | apply yJ | apply yK | apply yL | apply yM | apply yN | apply yO); (· exact hgA); (· exact hsA)) | (apply yNP; (· exact hgA); (· exact hsA)) | ((first | apply zA | apply zC | apply zE | apply zG); (· omega)) | ((first | apply zB | apply zD | apply zF | apply zH); (· omega)) | ((first | apply zI | apply zK); (· with_reducible assumption)) | ((first | apply zJ | apply zL); (· with_reducible assumption)) | fail)
      conv => whnf
      refine loopS_mask tt_ok (fun (k : Nat × AHeap) => [.w, .w, .k, .w, .k, .w, .w, .w, .k, .w, .w, .w, .w, .w, .w, .w, .w, .w, .w, .w, .w, .w, .w, .w, .w, .w, .w, .w, .k, .k, .p (iv k.1), .w, .w, .w, .w, .w, .w, .w, .w, .w, .w, .w, .w, .w, .w, .w, .w, .w, .w, .w, .w, .w, .w, .w, .w, .w, .w, .w, .w, .w, .w, .w, .w, .w, .w, .w, .w, .w, .w, .w, .w, .w, .w, .w, .w, .w, .w, .w, .w, .w]) (fun (k : Nat × AHeap) => k.2) (fun (k : Nat × AHeap) => k.1 ≤ fr.length ∧ H1.size ≤ k.2.size ∧ (∀ x, x < H1.size → x ∉ rs → k.2.get x = H1.get x) ∧ OMat k.2 (H.size + 1) o rs (matF (fun a c => if c < k.1 then betF fr to lfe a c else 0) to.length fr.length) []) (fun (k : Nat × AHeap) => fr.length - k.1) (⟨0, H1⟩) (⟨by omega, Nat.le_refl _, fun _ _ _ => rfl, hom.cast _ (fun a _ c _ => by simp)⟩) ?_ (fun k hk => ?_)
      · conv => whnf
        refine weakH_of (HW.refl _) ?_
        repeat' (first | exact WT.nil | refine WT.same ?_ | refine WT.drop ?_ | refine WT.int (by omega) ?_ | refine WT.eq (by assumption) ?_ | refine WT.bl (by first | assumption | (symm; assumption)) ?_ | refine WT.vv (by assumption) ?_)
      obtain ⟨k, HH⟩ := k
      obtain ⟨hk, hsz, hsame, homk⟩ := hk
      dsimp only at hk hsz hsame homk ⊢
      have hleH : H.le HH := ⟨by omega, fun j hj => (hsame j (by omega) (homk.notin (by omega))).trans ((hle1.get j hoA).trans hgA)⟩
      have g4 : HH.get H.size = some (.cells [.slice (some ⟨i1, off1, none⟩) to.length c2] true 0) := (hsame H.size (by omega) (homk.notin (by omega))).trans ((hle1.get _ hoA).trans hgA)
      have htH := ht.kp hleH.kp
      have hfH := hf.kp hleH.kp
      by_cases hlt : k < fr.length
      · have hpb := hfr fr[k] (List.getElem_mem _)
        by_cases hin : fr[k] ∈ to
        · skip
          repeat' ((conv => whnf); first | refine containsI_v (ht.kp kpA) rfl (decide_eq_true hin) ?_ | ((first | (apply vB; (case h => with_reducible assumption)) | (apply vA; (case h => with_reducible assumption)) | (apply vC; (case h => with_reducible assumption))); (case hk => exact kpA); (case he => omega)) | ((first | (apply vI; (case h => with_reducible assumption)) | (apply vG; (case h => with_reducible assumption)) | (apply vK; (case h => with_reducible assumption))); (case hk => exact kpA); (case he => omega); (case hp => omega); (case' g => intro hr_ hc_)) | ((first | (apply vJ; (case h => with_reducible assumption)) | (apply vH; (case h => with_reducible assumption)) | (apply vL; (case h => with_reducible assumption))); (case hk => exact kpA); (case he => omega); (case' g => intro hr_ hc_)) | (apply drawS_auto mixed tt_ok; (· kernel_rfl)) | apply zZ | apply yA | apply yB | ((first | apply zA | apply zC | apply zE | apply zG); (· with_reducible assumption)) | ((first | apply zB | apply zD | apply zF | apply zH); (· with_reducible assumption)) | apply zM | apply zN | apply zO | apply zP | apply zQ | apply zR | apply zS | apply zT | apply zU | (apply zV; (· omega)) | (apply zW; (· omega)) | (apply zX; (· (first | omega | (dsimp only; omega)))) | (apply zY; (try (apply zY; apply zX; (· omega))); apply zX; (· omega); apply zX; (· (first | omega | (dsimp only; omega)))) | ((first | apply yJ | apply yK | apply yL | apply yM | apply yN | apply yO); (· exact hgA); (· exact hsA)) | (apply yNP; (· exact hgA); (· exact hsA)) | ((first | apply zA | apply zC | apply zE | apply zG); (· omega)) | ((first | apply zB | apply zD | apply zF | apply zH); (· omega)) | ((first | apply zI | apply zK); (· with_reducible assumption)) | ((first | apply zJ | apply zL); (· with_reducible assumption)) | fail)
          conv => whnf
          refine callS_frz HH.size (fun Hf hHf => ?_)
          have hleF : HH.le Hf := by rw [hHf]; exact AHeap.le.fz leA (Nat.le_refl _)
          have hws : Ways Hf (some ⟨HH.size + 1, 0, none⟩) [([fr[k]], 65536)] := by
            rw [hHf]
            refine WaysIn.ways ?_ ⟨by simp, fun w hw => by
              rw [List.mem_singleton] at hw
              subst hw
              exact way_one hpb⟩ hoA hgA
            (repeat (first | exact .nil | (apply WaysIn.cons; (case hn => rfl); (case hr => exact hoA); (case hg => exact hgA))))
          have hszF : H1.size ≤ Hf.size := Nat.le_trans hsz hleF.size
          have hsameF : ∀ x, x < H1.size → x ∉ rs → Hf.get x = H1.get x := fun x h1 h2 => (hleF.get x (by omega)).trans (hsame x h1 h2)
          have homF := homk.le hleF
          have htF := htH.kp hleF.kp
          have hfF := hfH.kp hleF.kp
          have g4f := (hleF.get H.size (by omega)).trans g4
          clear hHf
          refine indexWay_c (ws := [([fr[k]], 65536)]) (p := servW to) hws (fun w _ ri cap hr K hK => served_c (b4 := H.size) htF (by omega) g4f hr hK) (fun j hj _ hser => ?_) (fun hno => ?_)
          · have hj1 : j < 1 := hj
            have hj0 : j = 0 := by omega
            have hpick : pickW to fr[k] lfe = some ([(([fr[k]], 65536) : Way)][j]) := by subst hj0; exact pick_in hin
            have hwo2 := (pick_ok hpb hpick).2.1
            have hserW := List.all_eq_true.1 hser
            repeat' ((conv => whnf); first | (refine way_to hws ?_ hj (fun ri cap hr => ?_); (· exact kpA)) | ((first | (apply vB; (case h => with_reducible assumption)) | (apply vA; (case h => with_reducible assumption)) | (apply vC; (case h => with_reducible assumption))); (case hk => exact kpA); (case he => omega)) | ((first | (apply vI; (case h => with_reducible assumption)) | (apply vG; (case h => with_reducible assumption)) | (apply vK; (case h => with_reducible assumption))); (case hk => exact kpA); (case he => omega); (case hp => omega); (case' g => intro hr_ hc_)) | ((first | (apply vJ; (case h => with_reducible assumption)) | (apply vH; (case h => with_reducible assumption)) | (apply vL; (case h => with_reducible assumption))); (case hk => exact kpA); (case he => omega); (case' g => intro hr_ hc_)) | (apply drawS_auto mixed tt_ok; (· kernel_rfl)) | apply zZ | apply yA | apply yB | ((first | apply zA | apply zC | apply zE | apply zG); (· with_reducible assumption)) | ((first | apply zB | apply zD | apply zF | apply zH); (· with_reducible assumption)) | apply zM | apply zN | apply zO | apply zP | apply zQ | apply zR | apply zS | apply zT | apply zU | (apply zV; (· omega)) | (apply zW; (· omega)) | (apply zX; (· (first | omega | (dsimp only; omega)))) | (apply zY; (try (apply zY; apply zX; (· omega))); apply zX; (· omega); apply zX; (· (first | omega | (dsimp only; omega)))) | ((first | apply yJ | apply yK | apply yL | apply yM | apply yN | apply yO); (· exact hgA); (· exact hsA)) | (apply yNP; (· exact hgA); (· exact hsA)) | ((first | apply zA | apply zC | apply zE | apply zG); (· omega)) | ((first | apply zB | apply zD | apply zF | apply zH); (· omega)) | ((first | apply zI | apply zK); (· with_reducible assumption)) | ((first | apply zJ | apply zL); (· with_reducible assumption)) | fail)
            conv => whnf
            refine loopS_mask tt_ok (fun (n : Nat × AHeap) => [.w, .w, .k, .w, .k, .w, .w, .w, .k, .k, .w, .k, .k, .w, .w, .w, .w, .w, .w, .w, .w, .w, .w, .w, .w, .w, .w, .w, .k, .k, .k, .w, .w, .w, .w, .w, .w, .w, .w, .w, .w, .w, .w, .w, .w, .w, .w, .w, .w, .w, .w, .w, .w, .w, .w, .w, .w, .w, .k, .k, .p (iv n.1), .w, .w, .w, .w, .w, .w, .w, .w, .w, .w, .w, .w, .w, .w, .w, .w, .w, .w, .w]) (fun (n : Nat × AHeap) => n.2) (fun (n : Nat × AHeap) => n.1 ≤ ([(([fr[k]], 65536) : Way)])[j].1.length ∧ n.2.size = Hf.size ∧ (∀ x, x ∉ rs → n.2.get x = Hf.get x) ∧ Kp Hf n.2 ∧ OMat n.2 (H.size + 1) o rs (matF (fun a c => if c < k then betF fr to lfe a c else if c = k ∧ to.getD a 0 ∈ ([(([fr[k]], 65536) : Way)])[j].1.take n.1 then ([(([fr[k]], 65536) : Way)])[j].2 else 0) to.length fr.length) []) (fun (n : Nat × AHeap) => ([(([fr[k]], 65536) : Way)])[j].1.length - n.1) (⟨0, Hf⟩) (⟨by omega, rfl, fun _ _ => rfl, Kp.refl _, homF.cast _ (fun a _ c _ => by simp)⟩) ?_ (fun n hn => ?_)
            · conv => whnf
              refine weakH_of (HW.refl _) ?_
              repeat' (first | exact WT.nil | refine WT.same ?_ | refine WT.drop ?_ | refine WT.int (by omega) ?_ | refine WT.eq (by assumption) ?_ | refine WT.bl (by first | assumption | (symm; assumption)) ?_ | refine WT.vv (by assumption) ?_)
            obtain ⟨n, Hn⟩ := n
            obtain ⟨hn, hszn, hsamen, hkpn, homn⟩ := hn
            dsimp only at hn hszn hsamen hkpn homn ⊢
            by_cases hln : n < ([(([fr[k]], 65536) : Way)])[j].1.length
            · obtain ⟨r, hrl, hrp, hrq⟩ := posI_ex (of_decide_eq_true (hserW (([(([fr[k]], 65536) : Way)])[j].1[n]) (List.getElem_mem _)))
              have g4n := (hsamen H.size (homn.notin (by omega))).trans g4f
              have htn := htF.kp hkpn
              repeat' ((conv => whnf); first | refine indexI_v htn hrp ?_ | refine homn.row hrl ?_ | refine way_w hws hkpn hj ?_ | refine homn.put2 hrl hlt (fun a c => if c < k then betF fr to lfe a c else if c = k ∧ to.getD a 0 ∈ ([(([fr[k]], 65536) : Way)])[j].1.take (n + 1) then ([(([fr[k]], 65536) : Way)])[j].2 else 0) (fun a ha c _ => ?_) (fun H5 hom5 hkp5 => ?_); exact bet_aux hln hrl hrq htd ha | ((first | (apply vB; (case h => with_reducible assumption)) | (apply vA; (case h => with_reducible assumption)) | (apply vC; (case h => with_reducible assumption))); (case hk => exact kpA); (case he => omega)) | ((first | (apply vI; (case h => with_reducible assumption)) | (apply vG; (case h => with_reducible assumption)) | (apply vK; (case h => with_reducible assumption))); (case hk => exact kpA); (case he => omega); (case hp => omega); (case' g => intro hr_ hc_)) | ((first | (apply vJ; (case h => with_reducible assumption)) | (apply vH; (case h => with_reducible assumption)) | (apply vL; (case h => with_reducible assumption))); (case hk => exact kpA); (case he => omega); (case' g => intro hr_ hc_)) | (apply drawS_auto mixed tt_ok; (· kernel_rfl)) | apply zZ | apply yA | apply yB | ((first | apply zA | apply zC | apply zE | apply zG); (· with_reducible assumption)) | ((first | apply zB | apply zD | apply zF | apply zH); (· with_reducible assumption)) | apply zM | apply zN | apply zO | apply zP | apply zQ | apply zR | apply zS | apply zT | apply zU | (apply zV; (· omega)) | (apply zW; (· omega)) | (apply zX; (· (first | omega | (dsimp only; omega)))) | (apply zY; (try (apply zY; apply zX; (· omega))); apply zX; (· omega); apply zX; (· (first | omega | (dsimp only; omega)))) | ((first | apply yJ | apply yK | apply yL | apply yM | apply yN | apply yO); (· exact hgA); (· exact hsA)) | (apply yNP; (· exact hgA); (· exact hsA)) | ((first | apply zA | apply zC | apply zE | apply zG); (· omega)) | ((first | apply zB | apply zD | apply zF | apply zH); (· omega)) | ((first | apply zI | apply zK); (· with_reducible assumption)) | ((first | apply zJ | apply zL); (· with_reducible assumption)) | fail)
              conv => whnf
              apply Exists.intro (n + 1, H5)
              refine ⟨?inv, ?mu, ?wk⟩
              case wk =>
                conv => whnf
                refine weakH_of (HW.refl _) ?_
                repeat' (first | exact WT.nil | refine WT.same ?_ | refine WT.drop ?_ | refine WT.int (by omega) ?_ | refine WT.eq (by assumption) ?_ | refine WT.bl (by first | assumption | (symm; assumption)) ?_ | refine WT.vv (by assumption) ?_)
              case mu => first | omega | (dsimp only; omega)
              case inv => exact ⟨by omega, hkp5.size.trans hszn, fun x hx => (hkp5.get x hx).trans (hsamen x hx), hkp5.kp _ hkpn, hom5⟩
            · have hnl : n = ([(([fr[k]], 65536) : Way)])[j].1.length := by omega
              subst hnl
              rw [List.take_length] at homn
              repeat' ((conv => whnf); first | ((first | (apply vB; (case h => with_reducible assumption)) | (apply vA; (case h => with_reducible assumption)) | (apply vC; (case h => with_reducible assumption))); (case hk => exact kpA); (case he => omega)) | ((first | (apply vI; (case h => with_reducible assumption)) | (apply vG; (case h => with_reducible assumption)) | (apply vK; (case h => with_reducible assumption))); (case hk => exact kpA); (case he => omega); (case hp => omega); (case' g => intro hr_ hc_)) | ((first | (apply vJ; (case h => with_reducible assumption)) | (apply vH; (case h => with_reducible assumption)) | (apply vL; (case h => with_reducible assumption))); (case hk => exact kpA); (case he => omega); (case' g => intro hr_ hc_)) | (apply drawS_auto mixed tt_ok; (· kernel_rfl)) | apply zZ | apply yA | apply yB | ((first | apply zA | apply zC | apply zE | apply zG); (· with_reducible assumption)) | ((first | apply zB | apply zD | apply zF | apply zH); (· with_reducible assumption)) | apply zM | apply zN | apply zO | apply zP | apply zQ | apply zR | apply zS | apply zT | apply zU | (apply zV; (· omega)) | (apply zW; (· omega)) | (apply zX; (· (first | omega | (dsimp only; omega)))) | (apply zY; (try (apply zY; apply zX; (· omega))); apply zX; (· omega); apply zX; (· (first | omega | (dsimp only; omega)))) | ((first | apply yJ | apply yK | apply yL | apply yM | apply yN | apply yO); (· exact hgA); (· exact hsA)) | (apply yNP; (· exact hgA); (· exact hsA)) | ((first | apply zA | apply zC | apply zE | apply zG); (· omega)) | ((first | apply zB | apply zD | apply zF | apply zH); (· omega)) | ((first | apply zI | apply zK); (· with_reducible assumption)) | ((first | apply zJ | apply zL); (· with_reducible assumption)) | fail)
              conv => whnf
              apply Exists.intro (k + 1, Hn)
              refine ⟨?inv, ?mu, ?wk⟩
              case wk =>
                conv => whnf
                refine weakH_of (HW.refl _) ?_
                repeat' (first | exact WT.nil | refine WT.same ?_ | refine WT.drop ?_ | refine WT.int (by omega) ?_ | refine WT.eq (by assumption) ?_ | refine WT.bl (by first | assumption | (symm; assumption)) ?_ | refine WT.vv (by assumption) ?_)
              case mu => first | omega | (dsimp only; omega)
              case inv => exact ⟨by omega, by rw [hszn]; exact hszF, fun x h1 h2 => (hsamen x h2).trans (hsameF x h1 h2), homn.cast _ (fun a _ c _ => bet_next hlt hpick)⟩
          · have := hno ([fr[k]], 65536) (by simp)
            simp [servW, hin] at this
        · skip
          repeat' ((conv => whnf); first | refine containsI_v (ht.kp kpA) rfl (decide_eq_false hin) ?_ | (apply spreads_c) | (refine load_spread ?_ hpb ?_; (· exact hgA)) | refine spreadF_c hpb (fun Hf a cw hleS hws hcap => ?_) | ((first | (apply vB; (case h => with_reducible assumption)) | (apply vA; (case h => with_reducible assumption)) | (apply vC; (case h => with_reducible assumption))); (case hk => exact kpA); (case he => omega)) | ((first | (apply vI; (case h => with_reducible assumption)) | (apply vG; (case h => with_reducible assumption)) | (apply vK; (case h => with_reducible assumption))); (case hk => exact kpA); (case he => omega); (case hp => omega); (case' g => intro hr_ hc_)) | ((first | (apply vJ; (case h => with_reducible assumption)) | (apply vH; (case h => with_reducible assumption)) | (apply vL; (case h => with_reducible assumption))); (case hk => exact kpA); (case he => omega); (case' g => intro hr_ hc_)) | (apply drawS_auto mixed tt_ok; (· kernel_rfl)) | apply zZ | apply yA | apply yB | ((first | apply zA | apply zC | apply zE | apply zG); (· with_reducible assumption)) | ((first | apply zB | apply zD | apply zF | apply zH); (· with_reducible assumption)) | apply zM | apply zN | apply zO | apply zP | apply zQ | apply zR | apply zS | apply zT | apply zU | (apply zV; (· omega)) | (apply zW; (· omega)) | (apply zX; (· (first | omega | (dsimp only; omega)))) | (apply zY; (try (apply zY; apply zX; (· omega))); apply zX; (· omega); apply zX; (· (first | omega | (dsimp only; omega)))) | ((first | apply yJ | apply yK | apply yL | apply yM | apply yN | apply yO); (· exact hgA); (· exact hsA)) | (apply yNP; (· exact hgA); (· exact hsA)) | ((first | apply zA | apply zC | apply zE | apply zG); (· omega)) | ((first | apply zB | apply zD | apply zF | apply zH); (· omega)) | ((first | apply zI | apply zK); (· with_reducible assumption)) | ((first | apply zJ | apply zL); (· with_reducible assumption)) | fail)
          conv => whnf
          have hleF : HH.le Hf := AHeap.le.trans leA hleS
          have hszF : H1.size ≤ Hf.size := Nat.le_trans hsz hleF.size
          have hsameF : ∀ x, x < H1.size → x ∉ rs → Hf.get x = H1.get x := fun x h1 h2 => (hleF.get x (by omega)).trans (hsame x h1 h2)
          have homF := homk.le hleF
          have htF := htH.kp hleF.kp
          have hfF := hfH.kp hleF.kp
          have g4f := (hleF.get H.size (by omega)).trans g4
          refine indexWay_c (p := servW to) hws (fun w _ ri cap hr K hK => served_c (b4 := H.size) htF (by omega) g4f hr hK) (fun j hj hbef hser => ?_) (fun hno => ?_)
          · have hpick : pickW to fr[k] lfe = some ((waysL fr[k] lfe)[j]) := by rw [pick_out hin]; exact find_at hj hbef hser
            have hwl := (ways_ok lfe hpb).1
            obtain ⟨wi, wo, rfl⟩ := hws.at hj
            have hwo2 := (pick_ok hpb hpick).2.1
            have hserW := List.all_eq_true.1 hser
            repeat' ((conv => whnf); first | (refine way_to hws ?_ hj (fun ri cap hr => ?_); (· exact kpA)) | ((first | (apply vB; (case h => with_reducible assumption)) | (apply vA; (case h => with_reducible assumption)) | (apply vC; (case h => with_reducible assumption))); (case hk => exact kpA); (case he => omega)) | ((first | (apply vI; (case h => with_reducible assumption)) | (apply vG; (case h => with_reducible assumption)) | (apply vK; (case h => with_reducible assumption))); (case hk => exact kpA); (case he => omega); (case hp => omega); (case' g => intro hr_ hc_)) | ((first | (apply vJ; (case h => with_reducible assumption)) | (apply vH; (case h => with_reducible assumption)) | (apply vL; (case h => with_reducible assumption))); (case hk => exact kpA); (case he => omega); (case' g => intro hr_ hc_)) | (apply drawS_auto mixed tt_ok; (· kernel_rfl)) | apply zZ | apply yA | apply yB | ((first | apply zA | apply zC | apply zE | apply zG); (· with_reducible assumption)) | ((first | apply zB | apply zD | apply zF | apply zH); (· with_reducible assumption)) | apply zM | apply zN | apply zO | apply zP | apply zQ | apply zR | apply zS | apply zT | apply zU | (apply zV; (· omega)) | (apply zW; (· omega)) | (apply zX; (· (first | omega | (dsimp only; omega)))) | (apply zY; (try (apply zY; apply zX; (· omega))); apply zX; (· omega); apply zX; (· (first | omega | (dsimp only; omega)))) | ((first | apply yJ | apply yK | apply yL | apply yM | apply yN | apply yO); (· exact hgA); (· exact hsA)) | (apply yNP; (· exact hgA); (· exact hsA)) | ((first | apply zA | apply zC | apply zE | apply zG); (· omega)) | ((first | apply zB | apply zD | apply zF | apply zH); (· omega)) | ((first | apply zI | apply zK); (· with_reducible assumption)) | ((first | apply zJ | apply zL); (· with_reducible assumption)) | fail)
            conv => whnf
            refine loopS_mask tt_ok (fun (n : Nat × AHeap) => [.w, .w, .k, .w, .k, .w, .w, .w, .k, .k, .w, .k, .k, .w, .w, .w, .w, .w, .w, .w, .w, .w, .w, .w, .w, .w, .w, .w, .k, .k, .k, .w, .w, .w, .w, .w, .w, .w, .w, .w, .w, .w, .w, .w, .w, .w, .w, .w, .w, .w, .w, .w, .w, .w, .w, .w, .w, .w, .k, .k, .p (iv n.1), .w, .w, .w, .w, .w, .w, .w, .w, .w, .w, .w, .w, .w, .w, .w, .w, .w, .w, .w]) (fun (n : Nat × AHeap) => n.2) (fun (n : Nat × AHeap) => n.1 ≤ (waysL fr[k] lfe)[j].1.length ∧ n.2.size = Hf.size ∧ (∀ x, x ∉ rs → n.2.get x = Hf.get x) ∧ Kp Hf n.2 ∧ OMat n.2 (H.size + 1) o rs (matF (fun a c => if c < k then betF fr to lfe a c else if c = k ∧ to.getD a 0 ∈ (waysL fr[k] lfe)[j].1.take n.1 then (waysL fr[k] lfe)[j].2 else 0) to.length fr.length) []) (fun (n : Nat × AHeap) => (waysL fr[k] lfe)[j].1.length - n.1) (⟨0, Hf⟩) (⟨by omega, rfl, fun _ _ => rfl, Kp.refl _, homF.cast _ (fun a _ c _ => by simp)⟩) ?_ (fun n hn => ?_)
            · conv => whnf
              refine weakH_of (HW.refl _) ?_
              repeat' (first | exact WT.nil | refine WT.same ?_ | refine WT.drop ?_ | refine WT.int (by omega) ?_ | refine WT.eq (by assumption) ?_ | refine WT.bl (by first | assumption | (symm; assumption)) ?_ | refine WT.vv (by assumption) ?_)
            obtain ⟨n, Hn⟩ := n
            obtain ⟨hn, hszn, hsamen, hkpn, homn⟩ := hn
            dsimp only at hn hszn hsamen hkpn homn ⊢
            by_cases hln : n < (waysL fr[k] lfe)[j].1.length
            · obtain ⟨r, hrl, hrp, hrq⟩ := posI_ex (of_decide_eq_true (hserW ((waysL fr[k] lfe)[j].1[n]) (List.getElem_mem _)))
              have g4n := (hsamen H.size (homn.notin (by omega))).trans g4f
              have htn := htF.kp hkpn
              repeat' ((conv => whnf); first | refine indexI_v htn hrp ?_ | refine homn.row hrl ?_ | refine way_w hws hkpn hj ?_ | refine homn.put2 hrl hlt (fun a c => if c < k then betF fr to lfe a c else if c = k ∧ to.getD a 0 ∈ (waysL fr[k] lfe)[j].1.take (n + 1) then (waysL fr[k] lfe)[j].2 else 0) (fun a ha c _ => ?_) (fun H5 hom5 hkp5 => ?_); exact bet_aux hln hrl hrq htd ha | ((first | (apply vB; (case h => with_reducible assumption)) | (apply vA; (case h => with_reducible assumption)) | (apply vC; (case h => with_reducible assumption))); (case hk => exact kpA); (case he => omega)) | ((first | (apply vI; (case h => with_reducible assumption)) | (apply vG; (case h => with_reducible assumption)) | (apply vK; (case h => with_reducible assumption))); (case hk => exact kpA); (case he => omega); (case hp => omega); (case' g => intro hr_ hc_)) | ((first | (apply vJ; (case h => with_reducible assumption)) | (apply vH; (case h => with_reducible assumption)) | (apply vL; (case h => with_reducible assumption))); (case hk => exact kpA); (case he => omega); (case' g => intro hr_ hc_)) | (apply drawS_auto mixed tt_ok; (· kernel_rfl)) | apply zZ | apply yA | apply yB | ((first | apply zA | apply zC | apply zE | apply zG); (· with_reducible assumption)) | ((first | apply zB | apply zD | apply zF | apply zH); (· with_reducible assumption)) | apply zM | apply zN | apply zO | apply zP | apply zQ | apply zR | apply zS | apply zT | apply zU | (apply zV; (· omega)) | (apply zW; (· omega)) | (apply zX; (· (first | omega | (dsimp only; omega)))) | (apply zY; (try (apply zY; apply zX; (· omega))); apply zX; (· omega); apply zX; (· (first | omega | (dsimp only; omega)))) | ((first | apply yJ | apply yK | apply yL | apply yM | apply yN | apply yO); (· exact hgA); (· exact hsA)) | (apply yNP; (· exact hgA); (· exact hsA)) | ((first | apply zA | apply zC | apply zE | apply zG); (· omega)) | ((first | apply zB | apply zD | apply zF | apply zH); (· omega)) | ((first | apply zI | apply zK); (· with_reducible assumption)) | ((first | apply zJ | apply zL); (· with_reducible assumption)) | fail)
              conv => whnf
              apply Exists.intro (n + 1, H5)
              refine ⟨?inv, ?mu, ?wk⟩
              case wk =>
                conv => whnf
                refine weakH_of (HW.refl _) ?_
                repeat' (first | exact WT.nil | refine WT.same ?_ | refine WT.drop ?_ | refine WT.int (by omega) ?_ | refine WT.eq (by assumption) ?_ | refine WT.bl (by first | assumption | (symm; assumption)) ?_ | refine WT.vv (by assumption) ?_)
              case mu => first | omega | (dsimp only; omega)
              case inv => exact ⟨by omega, hkp5.size.trans hszn, fun x hx => (hkp5.get x hx).trans (hsamen x hx), hkp5.kp _ hkpn, hom5⟩
            · have hnl : n = (waysL fr[k] lfe)[j].1.length := by omega
              subst hnl
              rw [List.take_length] at homn
              repeat' ((conv => whnf); first | ((first | (apply vB; (case h => with_reducible assumption)) | (apply vA; (case h => with_reducible assumption)) | (apply vC; (case h => with_reducible assumption))); (case hk => exact kpA); (case he => omega)) | ((first | (apply vI; (case h => with_reducible assumption)) | (apply vG; (case h => with_reducible assumption)) | (apply vK; (case h => with_reducible assumption))); (case hk => exact kpA); (case he => omega); (case hp => omega); (case' g => intro hr_ hc_)) | ((first | (apply vJ; (case h => with_reducible assumption)) | (apply vH; (case h => with_reducible assumption)) | (apply vL; (case h => with_reducible assumption))); (case hk => exact kpA); (case he => omega); (case' g => intro hr_ hc_)) | (apply drawS_auto mixed tt_ok; (· kernel_rfl)) | apply zZ | apply yA | apply yB | ((first | apply zA | apply zC | apply zE | apply zG); (· with_reducible assumption)) | ((first | apply zB | apply zD | apply zF | apply zH); (· with_reducible assumption)) | apply zM | apply zN | apply zO | apply zP | apply zQ | apply zR | apply zS | apply zT | apply zU | (apply zV; (· omega)) | (apply zW; (· omega)) | (apply zX; (· (first | omega | (dsimp only; omega)))) | (apply zY; (try (apply zY; apply zX; (· omega))); apply zX; (· omega); apply zX; (· (first | omega | (dsimp only; omega)))) | ((first | apply yJ | apply yK | apply yL | apply yM | apply yN | apply yO); (· exact hgA); (· exact hsA)) | (apply yNP; (· exact hgA); (· exact hsA)) | ((first | apply zA | apply zC | apply zE | apply zG); (· omega)) | ((first | apply zB | apply zD | apply zF | apply zH); (· omega)) | ((first | apply zI | apply zK); (· with_reducible assumption)) | ((first | apply zJ | apply zL); (· with_reducible assumption)) | fail)
              conv => whnf
              apply Exists.intro (k + 1, Hn)
              refine ⟨?inv, ?mu, ?wk⟩
              case wk =>
                conv => whnf
                refine weakH_of (HW.refl _) ?_
                repeat' (first | exact WT.nil | refine WT.same ?_ | refine WT.drop ?_ | refine WT.int (by omega) ?_ | refine WT.eq (by assumption) ?_ | refine WT.bl (by first | assumption | (symm; assumption)) ?_ | refine WT.vv (by assumption) ?_)
              case mu => first | omega | (dsimp only; omega)
              case inv => exact ⟨by omega, by rw [hszn]; exact hszF, fun x h1 h2 => (hsamen x h2).trans (hsameF x h1 h2), homn.cast _ (fun a _ c _ => bet_next hlt hpick)⟩
          · have hpick : pickW to fr[k] lfe = none := by rw [pick_out hin]; exact find_none hno
            repeat' ((conv => whnf); first | ((first | (apply vB; (case h => with_reducible assumption)) | (apply vA; (case h => with_reducible assumption)) | (apply vC; (case h => with_reducible assumption))); (case hk => exact kpA); (case he => omega)) | ((first | (apply vI; (case h => with_reducible assumption)) | (apply vG; (case h => with_reducible assumption)) | (apply vK; (case h => with_reducible assumption))); (case hk => exact kpA); (case he => omega); (case hp => omega); (case' g => intro hr_ hc_)) | ((first | (apply vJ; (case h => with_reducible assumption)) | (apply vH; (case h => with_reducible assumption)) | (apply vL; (case h => with_reducible assumption))); (case hk => exact kpA); (case he => omega); (case' g => intro hr_ hc_)) | (apply drawS_auto mixed tt_ok; (· kernel_rfl)) | apply zZ | apply yA | apply yB | ((first | apply zA | apply zC | apply zE | apply zG); (· with_reducible assumption)) | ((first | apply zB | apply zD | apply zF | apply zH); (· with_reducible assumption)) | apply zM | apply zN | apply zO | apply zP | apply zQ | apply zR | apply zS | apply zT | apply zU | (apply zV; (· omega)) | (apply zW; (· omega)) | (apply zX; (· (first | omega | (dsimp only; omega)))) | (apply zY; (try (apply zY; apply zX; (· omega))); apply zX; (· omega); apply zX; (· (first | omega | (dsimp only; omega)))) | ((first | apply yJ | apply yK | apply yL | apply yM | apply yN | apply yO); (· exact hgA); (· exact hsA)) | (apply yNP; (· exact hgA); (· exact hsA)) | ((first | apply zA | apply zC | apply zE | apply zG); (· omega)) | ((first | apply zB | apply zD | apply zF | apply zH); (· omega)) | ((first | apply zI | apply zK); (· with_reducible assumption)) | ((first | apply zJ | apply zL); (· with_reducible assumption)) | fail)
            conv => whnf
            apply Exists.intro (k + 1, Hf)
            refine ⟨?inv, ?mu, ?wk⟩
            case wk =>
              conv => whnf
              refine weakH_of (HW.refl _) ?_
              repeat' (first | exact WT.nil | refine WT.same ?_ | refine WT.drop ?_ | refine WT.int (by omega) ?_ | refine WT.eq (by assumption) ?_ | refine WT.bl (by first | assumption | (symm; assumption)) ?_ | refine WT.vv (by assumption) ?_)
            case mu => first | omega | (dsimp only; omega)
            case inv => exact ⟨by omega, hszF, hsameF, homF.cast _ (fun a _ c _ => bet_none hlt hpick)⟩
      · have hkn : k = fr.length := by omega
        subst hkn
        repeat' ((conv => whnf); first | ((first | (apply vB; (case h => with_reducible assumption)) | (apply vA; (case h => with_reducible assumption)) | (apply vC; (case h => with_reducible assumption))); (case hk => exact kpA); (case he => omega)) | ((first | (apply vI; (case h => with_reducible assumption)) | (apply vG; (case h => with_reducible assumption)) | (apply vK; (case h => with_reducible assumption))); (case hk => exact kpA); (case he => omega); (case hp => omega); (case' g => intro hr_ hc_)) | ((first | (apply vJ; (case h => with_reducible assumption)) | (apply vH; (case h => with_reducible assumption)) | (apply vL; (case h => with_reducible assumption))); (case hk => exact kpA); (case he => omega); (case' g => intro hr_ hc_)) | (apply drawS_auto mixed tt_ok; (· kernel_rfl)) | apply zZ | apply yA | apply yB | ((first | apply zA | apply zC | apply zE | apply zG); (· with_reducible assumption)) | ((first | apply zB | apply zD | apply zF | apply zH); (· with_reducible assumption)) | apply zM | apply zN | apply zO | apply zP | apply zQ | apply zR | apply zS | apply zT | apply zU | (apply zV; (· omega)) | (apply zW; (· omega)) | (apply zX; (· (first | omega | (dsimp only; omega)))) | (apply zY; (try (apply zY; apply zX; (· omega))); apply zX; (· omega); apply zX; (· (first | omega | (dsimp only; omega)))) | ((first | apply yJ | apply yK | apply yL | apply yM | apply yN | apply yO); (· exact hgA); (· exact hsA)) | (apply yNP; (· exact hgA); (· exact hsA)) | ((first | apply zA | apply zC | apply zE | apply zG); (· omega)) | ((first | apply zB | apply zD | apply zF | apply zH); (· omega)) | ((first | apply zI | apply zK); (· with_reducible assumption)) | ((first | apply zJ | apply zL); (· with_reducible assumption)) | fail)
        conv => whnf
        exact ⟨_, HW.fz _ H.size, h _ _ _ (AHeap.le.fz hleH (Nat.le_refl _)) ((homk.cast (betF fr to lfe) (fun a _ c hc => by simp [hc])).fzF (by omega) (by unfold maxN; omega) (by unfold maxN; omega) (fun a _ c hc => by have := betF_bd (to := to) (lfe := lfe) hfr (a := a) hc; unfold inR; omega))⟩
end Go.Abs
