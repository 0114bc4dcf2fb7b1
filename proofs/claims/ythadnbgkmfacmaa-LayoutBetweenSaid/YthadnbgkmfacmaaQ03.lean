/- Contracts of the ways of positions: the program's and the reference's. No conditions beyond those stated. -/
import Derived.Test.YthadnbgkmfacmaaK03
set_option linter.all false
set_option maxHeartbeats 2000000
set_option maxRecDepth 20000
namespace Go.Abs
open Go Go.Proofs

abbrev Way : Type := List Int × Int
def sidesW (o f : Int) : List Way := [([o], 65536), ([10], 46341), ([f], 46341), ([4], 32768), ([1], 32768)]
def waysL (p : Int) (lfe : Bool) : List Way :=
  if p = 1 then [([4], 65536), ([2, 3], 65536)]
  else if p = 2 then [([1], 32768), ([4], 32768)]
  else if p = 3 then [([1], 32768), ([4], 32768)]
  else if p = 4 then [([2, 3], 46341), ([1], 65536)]
  else if p = 5 then (if lfe = true then [([4], 32768), ([2, 3], 23170), ([1], 32768)] else [])
  else if p = 6 then sidesW 8 2
  else if p = 7 then sidesW 9 3
  else if p = 8 then sidesW 6 2
  else if p = 9 then sidesW 7 3
  else [([6, 7], 46341), ([8, 9], 46341), ([2, 3], 32768), ([4], 32768), ([1], 32768)]
theorem ten_cases {n : Int} (h : 1 ≤ n ∧ n ≤ 10) : n = 1 ∨ n = 2 ∨ n = 3 ∨ n = 4 ∨ n = 5 ∨ n = 6 ∨ n = 7 ∨ n = 8 ∨ n = 9 ∨ n = 10 := by omega
def wayOk (w : Way) : Prop := 0 < w.1.length ∧ w.1.length ≤ 2 ∧ (∀ x ∈ w.1, 1 ≤ x ∧ x ≤ 10) ∧ 0 ≤ w.2 ∧ w.2 ≤ 65536
instance (w : Way) : Decidable (wayOk w) := by unfold wayOk; infer_instance
theorem ways_ok {p : Int} (lfe : Bool) (hp : 1 ≤ p ∧ p ≤ 10) : (waysL p lfe).length ≤ 5 ∧ ∀ w ∈ waysL p lfe, wayOk w := by
  rcases ten_cases hp with rfl | rfl | rfl | rfl | rfl | rfl | rfl | rfl | rfl | rfl <;> cases lfe <;> decide
def RWay : VR Way := fun H cs w => ∃ ri cap, cs = [.slice (some ⟨ri, 0, none⟩) w.1.length cap, iv w.2] ∧ Row H (some ⟨ri, 0, none⟩) w.1
theorem rWay_mono : MonoR RWay := fun _ _ _ _ k ⟨ri, cap, h1, h2⟩ => ⟨ri, cap, h1, h2.kp k⟩
abbrev Ways (H : AHeap) (a : Option Addr) (ws : List Way) : Prop := Sl RWay 2 H a ws
theorem Ways.kp {H H' : AHeap} {a : Option Addr} {ws : List Way} (h : Ways H a ws) (k : Kp H H') : Ways H' a ws := Sl.kp rWay_mono h k

/-! cells that stand for ways: rows of the call's own -/
inductive WaysIn (base : Nat) (H : AHeap) : List Value → List Way → Prop where
  | nil : WaysIn base H [] []
  | cons {r n : Nat} {xs : List Int} {x : Int} {cs : List Value} {ws : List Way} {own : Bool} {sz : Nat} (hn : n = xs.length) (hr : base ≤ r ∧ r < H.size) (hg : H.get r = some (.cells (xs.map (Value.int .i64)) own sz)) (t : WaysIn base H cs ws) :
      WaysIn base H (.slice (some ⟨r, 0, none⟩) n n :: .int .i64 x :: cs) ((xs, x) :: ws)
theorem WaysIn.fz {base : Nat} {H : AHeap} {cs : List Value} {ws : List Way} (h : WaysIn base H cs ws) (hw : ∀ w ∈ ws, wayOk w) : cs.length = ws.length * 2 ∧ ∀ k (hk : k < ws.length), RWay (H.fz base) ((cs.drop (k * 2)).take 2) ws[k] := by
  induction h with
  | nil => exact ⟨rfl, fun k hk => absurd hk (by simp)⟩
  | @cons r n xs x cs ws own sz hn hr hg _ ih =>
    subst hn
    obtain ⟨e, ih⟩ := ih (fun w hm => hw w (by simp [hm]))
    refine ⟨by simp [e]; omega, fun k hk => ?_⟩
    have hx := hw (xs, x) (by simp)
    cases k with
    | zero => exact ⟨r, xs.length, rfl, Row.fz (xs := xs) hr.2 hr.1 hg (by have := hx.2.1; dsimp only at this; unfold maxN; omega) (fun y hy => by have := hx.2.2.1 y hy; unfold inR; omega)⟩
    | succ k =>
      have := ih k (by simpa using hk)
      rw [show (k + 1) * 2 = k * 2 + 1 + 1 by omega]
      exact this
theorem WaysIn.ways {base o : Nat} {H : AHeap} {cs : List Value} {ws : List Way} {own : Bool} {sz : Nat} (h : WaysIn base H cs ws) (hw : ws.length ≤ 5 ∧ ∀ w ∈ ws, wayOk w) (ho : base ≤ o ∧ o < H.size) (hg : H.get o = some (.cells cs own sz)) : Ways (H.fz base) (some ⟨o, 0, none⟩) ws := by
  obtain ⟨e, h1⟩ := h.fz hw.2
  refine .mk (FB.fz ho.2 ho.1 hg) (by have := hw.1; unfold maxN; omega) (by omega) fun k hk => ⟨_, rfl, by omega, ?_⟩
  rw [Nat.zero_add]
  exact h1 k hk
/-! loads -/
theorem Sl.way {H : AHeap} {i off : Nat} {ws : List Way} (h : Ways H (some ⟨i, off, none⟩) ws) {k : Nat} (hk : k < ws.length) : ∃ ri cap c sz, H.get i = some (.cells c false sz) ∧ i < H.size ∧ off + k * 2 + 2 ≤ c.length ∧ (c.drop (off + k * 2)).take 2 = [.slice (some ⟨ri, 0, none⟩) ws[k].1.length cap, iv ws[k].2] ∧ Row H (some ⟨ri, 0, none⟩) ws[k].1 := by
  cases h with
  | mk hb hn hl hc =>
    rename_i c
    obtain ⟨hi, sz, hg⟩ := hb
    obtain ⟨cs, h1, h2, ri, cap, h3, h4⟩ := hc k hk
    exact ⟨ri, cap, c, sz, hg, hi, h2, h1.trans h3, h4⟩
theorem two_get {c : List Value} {n : Nat} {x y : Value} (h : (c.drop n).take 2 = [x, y]) : c[n]? = some x ∧ c[n + 1]? = some y := by
  constructor
  · have : ((c.drop n).take 2)[0]? = some x := by rw [h]; rfl
    rw [List.getElem?_take_of_lt (by omega), List.getElem?_drop] at this
    simpa using this
  · have : ((c.drop n).take 2)[1]? = some y := by rw [h]; rfl
    rw [List.getElem?_take_of_lt (by omega), List.getElem?_drop] at this
    simpa using this
theorem way_to {H0 H : AHeap} {i off k : Nat} {ws : List Way} {K : Value → Prop} (h : Ways H0 (some ⟨i, off, none⟩) ws) (hk : Kp H0 H) (he : k < ws.length) (g : ∀ ri cap, Row H0 (some ⟨ri, 0, none⟩) ws[k].1 → K (.slice (some ⟨ri, 0, none⟩) ws[k].1.length cap)) : loadK H i (off + (k : Int).toNat * 2 + 0) K := by
  obtain ⟨ri, cap, c, sz, h1, h2, h3, h4, h5⟩ := h.way he
  exact loadK_get (hk.get _ _ _ h2 h1) (by rw [Int.toNat_natCast]; exact (two_get h4).1) (g ri cap h5)
theorem way_w {H0 H : AHeap} {i off k : Nat} {ws : List Way} {K : Value → Prop} (h : Ways H0 (some ⟨i, off, none⟩) ws) (hk : Kp H0 H) (he : k < ws.length) (g : K (iv ws[k].2)) : loadK H i (off + (k : Int).toNat * 2 + 1) K := by
  obtain ⟨ri, cap, c, sz, h1, h2, h3, h4, h5⟩ := h.way he
  exact loadK_get (hk.get _ _ _ h2 h1) (by rw [Int.toNat_natCast]; exact (two_get h4).2) g
theorem way_all {H0 H : AHeap} {i off k : Nat} {ws : List Way} {K : List Value → Prop} (h : Ways H0 (some ⟨i, off, none⟩) ws) (hk : Kp H0 H) (he : k < ws.length) (g : ∀ ri cap, Row H0 (some ⟨ri, 0, none⟩) ws[k].1 → K [.slice (some ⟨ri, 0, none⟩) ws[k].1.length cap, iv ws[k].2]) : loadsK H i (off + (k : Int).toNat * 2) 2 K := by
  obtain ⟨ri, cap, c, sz, h1, h2, h3, h4, h5⟩ := h.way he
  refine loadsK_of (hk.get _ _ _ h2 h1) (by rw [Int.toNat_natCast]; omega) ?_
  rw [Int.toNat_natCast, h4]
  exact g ri cap h5
theorem take_take_drop {c : List Value} {off n k : Nat} (hk : k * 2 + 2 ≤ n) : (((c.drop off).take n).drop (k * 2)).take 2 = (c.drop (off + k * 2)).take 2 := by
  rw [List.drop_take, List.drop_drop, List.take_take]
  congr 1
  omega
/-- all cells of ways -/
theorem srcK_ways {H0 H : AHeap} {a : Option Addr} {c : Nat} {ws : List Way} {k : Nat → List Value → Prop} (h : Ways H0 a ws) (hc : CapOk a ws.length c) (hk : Kp H0 H) (g : ∀ cs, cs.length = ws.length * 2 → (∀ k (hk : k < ws.length), RWay H0 ((cs.drop (k * 2)).take 2) ws[k]) → k ws.length cs) : srcK H 2 (.slice a ws.length c) k := by
  cases h with
  | nil =>
    have : c = 0 := hc.1 rfl
    subst this
    exact g [] rfl (fun k hk => absurd hk (by simp))
  | mk hb hn hl hcc =>
    rename_i i off c'
    obtain ⟨hi, sz, hg⟩ := hb
    refine loadsK_of (hk.get _ _ _ hi hg) hl (g _ (by rw [List.length_take, List.length_drop]; omega) fun k hk => ?_)
    obtain ⟨cs, h1, h2, h3⟩ := hcc k hk
    rw [take_take_drop (by omega), h1]
    exact h3
/-- a way of the call's own ahead of frozen ones -/
theorem ways_cons {base o r : Nat} {H0 H : AHeap} {xs : List Int} {x : Int} {cs : List Value} {ws : List Way} {own own' : Bool} {sz sz' : Nat} (hg : H.get o = some (.cells (.slice (some ⟨r, 0, none⟩) xs.length xs.length :: .int .i64 x :: cs) own sz)) (ho : base ≤ o ∧ o < H.size)
    (hr : base ≤ r ∧ r < H.size) (hgr : H.get r = some (.cells (xs.map (Value.int .i64)) own' sz')) (hl : cs.length = ws.length * 2) (hc : ∀ k (hk : k < ws.length), RWay H0 ((cs.drop (k * 2)).take 2) ws[k]) (hk : Kp H0 (H.fz base)) (hn : xs.length ≤ 1000 ∧ ws.length ≤ 1000) (hx : ∀ y ∈ xs, 1 ≤ y ∧ y ≤ 10) :
    Ways (H.fz base) (some ⟨o, 0, none⟩) ((xs, x) :: ws) := by
  refine .mk (FB.fz ho.2 ho.1 hg) (by simp; unfold maxN; omega) (by simp; omega) fun k hk' => ⟨_, rfl, by simp at hk' ⊢; omega, ?_⟩
  rw [Nat.zero_add]
  cases k with
  | zero => exact ⟨r, xs.length, rfl, Row.fz (xs := xs) hr.2 hr.1 hgr (by unfold maxN; omega) (fun y hy => by have := hx y hy; unfold inR; omega)⟩
  | succ k =>
    rw [show (k + 1) * 2 = k * 2 + 1 + 1 by omega]
    exact rWay_mono _ _ _ _ hk (hc k (by simpa using hk'))
/-! the program's table -/
def spreadF (p : Int) : Nat :=
  if p = 1 then 70 else if p = 2 then 69 else if p = 3 then 69 else if p = 4 then 71 else if p = 5 then 72
  else if p = 6 then 73 else if p = 7 then 75 else if p = 8 then 76 else if p = 9 then 77 else 78
def spreadsV : List Value := [.nilFunc, fnV 70, fnV 69, fnV 69, fnV 71, fnV 72, fnV 73, fnV 75, fnV 76, fnV 77, fnV 78]
theorem spread_at {p : Int} (hp : 1 ≤ p ∧ p ≤ 10) : spreadsV[0 + p.toNat * 1]? = some (fnV (spreadF p)) := by
  rcases ten_cases hp with rfl | rfl | rfl | rfl | rfl | rfl | rfl | rfl | rfl | rfl <;> rfl
theorem spreads_c {H : AHeap} {K : CK} (h : K (.returned (.slice (some ⟨H.size, 0, none⟩) 11 11)) (H.push (.cells spreadsV true 1))) : callS P (fnV 54) [] H K := by
  refine callS_walk tt_ok Try.func54 rfl (by kernel_rfl) ?_
  conv => whnf
  repeat' ((conv => whnf); first | apply yA | apply yB | ((first | apply zA | apply zC | apply zE | apply zG); (· with_reducible assumption)) | ((first | apply zB | apply zD | apply zF | apply zH); (· with_reducible assumption)) | apply zM | apply zN | apply zO | apply zP | apply zQ | apply zR | apply zS | apply zT | apply zU | (apply zV; (· omega)) | (apply zW; (· omega)) | (apply zX; (· (first | omega | (dsimp only; omega)))) | (apply zY; (try (apply zY; apply zX; (· omega))); apply zX; (· omega); apply zX; (· (first | omega | (dsimp only; omega)))) | ((first | apply yJ | apply yK | apply yL | apply yM | apply yN | apply yO); (· exact hgA); (· exact hsA)) | (apply yNP; (· exact hgA); (· exact hsA)) | ((first | apply zA | apply zC | apply zE | apply zG); (· omega)) | ((first | apply zB | apply zD | apply zF | apply zH); (· omega)) | ((first | apply zI | apply zK); (· with_reducible assumption)) | ((first | apply zJ | apply zL); (· with_reducible assumption)) | fail)
  conv => whnf
  exact h
theorem waysL_1 (lfe : Bool) : waysL 1 lfe = [([4], 65536), ([2, 3], 65536)] := rfl
theorem waysL_2 (lfe : Bool) : waysL 2 lfe = [([1], 32768), ([4], 32768)] := rfl
theorem waysL_3 (lfe : Bool) : waysL 3 lfe = [([1], 32768), ([4], 32768)] := rfl
theorem waysL_4 (lfe : Bool) : waysL 4 lfe = [([2, 3], 46341), ([1], 65536)] := rfl
theorem waysL_6 (lfe : Bool) : waysL 6 lfe = [([8], 65536), ([10], 46341), ([2], 46341), ([4], 32768), ([1], 32768)] := rfl
theorem waysL_7 (lfe : Bool) : waysL 7 lfe = [([9], 65536), ([10], 46341), ([3], 46341), ([4], 32768), ([1], 32768)] := rfl
theorem waysL_8 (lfe : Bool) : waysL 8 lfe = [([6], 65536), ([10], 46341), ([2], 46341), ([4], 32768), ([1], 32768)] := rfl
theorem waysL_9 (lfe : Bool) : waysL 9 lfe = [([7], 65536), ([10], 46341), ([3], 46341), ([4], 32768), ([1], 32768)] := rfl
theorem waysL_10 (lfe : Bool) : waysL 10 lfe = [([6, 7], 46341), ([8, 9], 46341), ([2, 3], 32768), ([4], 32768), ([1], 32768)] := rfl
theorem waysL_5t : waysL 5 true = [([4], 32768), ([2, 3], 23170), ([1], 32768)] := rfl
theorem waysL_5f : waysL 5 false = [] := rfl
theorem spreadF_c {p : Int} {lfe : Bool} {H : AHeap} {K : CK} (hp : 1 ≤ p ∧ p ≤ 10) (h : ∀ H' a c, H.le H' → Ways H' a (waysL p lfe) → CapOk a (waysL p lfe).length c → K (.returned (.slice a (waysL p lfe).length c)) H') : callS P (fnV (spreadF p)) [.bool lfe] H K := by
  refine callS_post ?_
  rcases ten_cases hp with rfl | rfl | rfl | rfl | rfl | rfl | rfl | rfl | rfl | rfl
  · rw [waysL_1] at h
    refine callS_walk tt_ok Try.func70 rfl (by kernel_rfl) ?_
    conv => whnf
    repeat' ((conv => whnf); first | apply yA | apply yB | ((first | apply zA | apply zC | apply zE | apply zG); (· with_reducible assumption)) | ((first | apply zB | apply zD | apply zF | apply zH); (· with_reducible assumption)) | apply zM | apply zN | apply zO | apply zP | apply zQ | apply zR | apply zS | apply zT | apply zU | (apply zV; (· omega)) | (apply zW; (· omega)) | (apply zX; (· (first | omega | (dsimp only; omega)))) | (apply zY; (try (apply zY; apply zX; (· omega))); apply zX; (· omega); apply zX; (· (first | omega | (dsimp only; omega)))) | ((first | apply yJ | apply yK | apply yL | apply yM | apply yN | apply yO); (· exact hgA); (· exact hsA)) | (apply yNP; (· exact hgA); (· exact hsA)) | ((first | apply zA | apply zC | apply zE | apply zG); (· omega)) | ((first | apply zB | apply zD | apply zF | apply zH); (· omega)) | ((first | apply zI | apply zK); (· with_reducible assumption)) | ((first | apply zJ | apply zL); (· with_reducible assumption)) | fail)
    conv => whnf
    refine ⟨_, HW.fz _ H.size, h _ _ _ (AHeap.le.fz leA (Nat.le_refl _)) (WaysIn.ways ?_ (by decide) hoA hgA) (CapOk.of (Nat.le_refl _))⟩
    (repeat (first | exact .nil | (apply WaysIn.cons; (case hn => rfl); (case hr => exact hoA); (case hg => exact hgA))))
  · rw [waysL_2] at h
    refine callS_walk tt_ok Try.func69 rfl (by kernel_rfl) ?_
    conv => whnf
    repeat' ((conv => whnf); first | apply yA | apply yB | ((first | apply zA | apply zC | apply zE | apply zG); (· with_reducible assumption)) | ((first | apply zB | apply zD | apply zF | apply zH); (· with_reducible assumption)) | apply zM | apply zN | apply zO | apply zP | apply zQ | apply zR | apply zS | apply zT | apply zU | (apply zV; (· omega)) | (apply zW; (· omega)) | (apply zX; (· (first | omega | (dsimp only; omega)))) | (apply zY; (try (apply zY; apply zX; (· omega))); apply zX; (· omega); apply zX; (· (first | omega | (dsimp only; omega)))) | ((first | apply yJ | apply yK | apply yL | apply yM | apply yN | apply yO); (· exact hgA); (· exact hsA)) | (apply yNP; (· exact hgA); (· exact hsA)) | ((first | apply zA | apply zC | apply zE | apply zG); (· omega)) | ((first | apply zB | apply zD | apply zF | apply zH); (· omega)) | ((first | apply zI | apply zK); (· with_reducible assumption)) | ((first | apply zJ | apply zL); (· with_reducible assumption)) | fail)
    conv => whnf
    refine ⟨_, HW.fz _ H.size, h _ _ _ (AHeap.le.fz leA (Nat.le_refl _)) (WaysIn.ways ?_ (by decide) hoA hgA) (CapOk.of (Nat.le_refl _))⟩
    (repeat (first | exact .nil | (apply WaysIn.cons; (case hn => rfl); (case hr => exact hoA); (case hg => exact hgA))))
  · rw [waysL_3] at h
    refine callS_walk tt_ok Try.func69 rfl (by kernel_rfl) ?_
    conv => whnf
    repeat' ((conv => whnf); first | apply yA | apply yB | ((first | apply zA | apply zC | apply zE | apply zG); (· with_reducible assumption)) | ((first | apply zB | apply zD | apply zF | apply zH); (· with_reducible assumption)) | apply zM | apply zN | apply zO | apply zP | apply zQ | apply zR | apply zS | apply zT | apply zU | (apply zV; (· omega)) | (apply zW; (· omega)) | (apply zX; (· (first | omega | (dsimp only; omega)))) | (apply zY; (try (apply zY; apply zX; (· omega))); apply zX; (· omega); apply zX; (· (first | omega | (dsimp only; omega)))) | ((first | apply yJ | apply yK | apply yL | apply yM | apply yN | apply yO); (· exact hgA); (· exact hsA)) | (apply yNP; (· exact hgA); (· exact hsA)) | ((first | apply zA | apply zC | apply zE | apply zG); (· omega)) | ((first | apply zB | apply zD | apply zF | apply zH); (· omega)) | ((first | apply zI | apply zK); (· with_reducible assumption)) | ((first | apply zJ | apply zL); (· with_reducible assumption)) | fail)
    conv => whnf
    refine ⟨_, HW.fz _ H.size, h _ _ _ (AHeap.le.fz leA (Nat.le_refl _)) (WaysIn.ways ?_ (by decide) hoA hgA) (CapOk.of (Nat.le_refl _))⟩
    (repeat (first | exact .nil | (apply WaysIn.cons; (case hn => rfl); (case hr => exact hoA); (case hg => exact hgA))))
  · rw [waysL_4] at h
    refine callS_walk tt_ok Try.func71 rfl (by kernel_rfl) ?_
    conv => whnf
    repeat' ((conv => whnf); first | apply yA | apply yB | ((first | apply zA | apply zC | apply zE | apply zG); (· with_reducible assumption)) | ((first | apply zB | apply zD | apply zF | apply zH); (· with_reducible assumption)) | apply zM | apply zN | apply zO | apply zP | apply zQ | apply zR | apply zS | apply zT | apply zU | (apply zV; (· omega)) | (apply zW; (· omega)) | (apply zX; (· (first | omega | (dsimp only; omega)))) | (apply zY; (try (apply zY; apply zX; (· omega))); apply zX; (· omega); apply zX; (· (first | omega | (dsimp only; omega)))) | ((first | apply yJ | apply yK | apply yL | apply yM | apply yN | apply yO); (· exact hgA); (· exact hsA)) | (apply yNP; (· exact hgA); (· exact hsA)) | ((first | apply zA | apply zC | apply zE | apply zG); (· omega)) | ((first | apply zB | apply zD | apply zF | apply zH); (· omega)) | ((first | apply zI | apply zK); (· with_reducible assumption)) | ((first | apply zJ | apply zL); (· with_reducible assumption)) | fail)
    conv => whnf
    refine ⟨_, HW.fz _ H.size, h _ _ _ (AHeap.le.fz leA (Nat.le_refl _)) (WaysIn.ways ?_ (by decide) hoA hgA) (CapOk.of (Nat.le_refl _))⟩
    (repeat (first | exact .nil | (apply WaysIn.cons; (case hn => rfl); (case hr => exact hoA); (case hg => exact hgA))))
  · cases lfe
    · rw [waysL_5f] at h
      refine callS_walk tt_ok Try.func72 rfl (by kernel_rfl) ?_
      conv => whnf
      repeat' ((conv => whnf); first | apply yA | apply yB | ((first | apply zA | apply zC | apply zE | apply zG); (· with_reducible assumption)) | ((first | apply zB | apply zD | apply zF | apply zH); (· with_reducible assumption)) | apply zM | apply zN | apply zO | apply zP | apply zQ | apply zR | apply zS | apply zT | apply zU | (apply zV; (· omega)) | (apply zW; (· omega)) | (apply zX; (· (first | omega | (dsimp only; omega)))) | (apply zY; (try (apply zY; apply zX; (· omega))); apply zX; (· omega); apply zX; (· (first | omega | (dsimp only; omega)))) | ((first | apply yJ | apply yK | apply yL | apply yM | apply yN | apply yO); (· exact hgA); (· exact hsA)) | (apply yNP; (· exact hgA); (· exact hsA)) | ((first | apply zA | apply zC | apply zE | apply zG); (· omega)) | ((first | apply zB | apply zD | apply zF | apply zH); (· omega)) | ((first | apply zI | apply zK); (· with_reducible assumption)) | ((first | apply zJ | apply zL); (· with_reducible assumption)) | fail)
      conv => whnf
      exact ⟨_, HW.refl _, h _ none 0 (AHeap.le.refl _) .nil ⟨fun _ => rfl, Nat.le_refl _⟩⟩
    · rw [waysL_5t] at h
      refine callS_walk tt_ok Try.func72 rfl (by kernel_rfl) ?_
      conv => whnf
      repeat' ((conv => whnf); first | apply yA | apply yB | ((first | apply zA | apply zC | apply zE | apply zG); (· with_reducible assumption)) | ((first | apply zB | apply zD | apply zF | apply zH); (· with_reducible assumption)) | apply zM | apply zN | apply zO | apply zP | apply zQ | apply zR | apply zS | apply zT | apply zU | (apply zV; (· omega)) | (apply zW; (· omega)) | (apply zX; (· (first | omega | (dsimp only; omega)))) | (apply zY; (try (apply zY; apply zX; (· omega))); apply zX; (· omega); apply zX; (· (first | omega | (dsimp only; omega)))) | ((first | apply yJ | apply yK | apply yL | apply yM | apply yN | apply yO); (· exact hgA); (· exact hsA)) | (apply yNP; (· exact hgA); (· exact hsA)) | ((first | apply zA | apply zC | apply zE | apply zG); (· omega)) | ((first | apply zB | apply zD | apply zF | apply zH); (· omega)) | ((first | apply zI | apply zK); (· with_reducible assumption)) | ((first | apply zJ | apply zL); (· with_reducible assumption)) | fail)
      conv => whnf
      refine ⟨_, HW.fz _ H.size, h _ _ _ (AHeap.le.fz leA (Nat.le_refl _)) (WaysIn.ways ?_ (by decide) hoA hgA) (CapOk.of (Nat.le_refl _))⟩
      (repeat (first | exact .nil | (apply WaysIn.cons; (case hn => rfl); (case hr => exact hoA); (case hg => exact hgA))))
  · rw [waysL_6] at h
    refine callS_walk tt_ok Try.func73 rfl (by kernel_rfl) ?_
    conv => whnf
    repeat' ((conv => whnf); first | (refine callS_walk tt_ok Try.func74 rfl (by kernel_rfl) ?_) | apply yA | apply yB | ((first | apply zA | apply zC | apply zE | apply zG); (· with_reducible assumption)) | ((first | apply zB | apply zD | apply zF | apply zH); (· with_reducible assumption)) | apply zM | apply zN | apply zO | apply zP | apply zQ | apply zR | apply zS | apply zT | apply zU | (apply zV; (· omega)) | (apply zW; (· omega)) | (apply zX; (· (first | omega | (dsimp only; omega)))) | (apply zY; (try (apply zY; apply zX; (· omega))); apply zX; (· omega); apply zX; (· (first | omega | (dsimp only; omega)))) | ((first | apply zA | apply zC | apply zE | apply zG); (· omega)) | ((first | apply zB | apply zD | apply zF | apply zH); (· omega)) | ((first | apply zI | apply zK); (· with_reducible assumption)) | ((first | apply zJ | apply zL); (· with_reducible assumption)) | fail)
    conv => whnf
    refine ⟨_, HW.fz _ H.size, h _ _ _ (AHeap.le.fz leA (Nat.le_refl _)) (WaysIn.ways ?_ (by decide) hoA hgA) (CapOk.of (Nat.le_refl _))⟩
    (repeat (first | exact .nil | (apply WaysIn.cons; (case hn => rfl); (case hr => exact hoA); (case hg => exact hgA))))
  · rw [waysL_7] at h
    refine callS_walk tt_ok Try.func75 rfl (by kernel_rfl) ?_
    conv => whnf
    repeat' ((conv => whnf); first | (refine callS_walk tt_ok Try.func74 rfl (by kernel_rfl) ?_) | apply yA | apply yB | ((first | apply zA | apply zC | apply zE | apply zG); (· with_reducible assumption)) | ((first | apply zB | apply zD | apply zF | apply zH); (· with_reducible assumption)) | apply zM | apply zN | apply zO | apply zP | apply zQ | apply zR | apply zS | apply zT | apply zU | (apply zV; (· omega)) | (apply zW; (· omega)) | (apply zX; (· (first | omega | (dsimp only; omega)))) | (apply zY; (try (apply zY; apply zX; (· omega))); apply zX; (· omega); apply zX; (· (first | omega | (dsimp only; omega)))) | ((first | apply zA | apply zC | apply zE | apply zG); (· omega)) | ((first | apply zB | apply zD | apply zF | apply zH); (· omega)) | ((first | apply zI | apply zK); (· with_reducible assumption)) | ((first | apply zJ | apply zL); (· with_reducible assumption)) | fail)
    conv => whnf
    refine ⟨_, HW.fz _ H.size, h _ _ _ (AHeap.le.fz leA (Nat.le_refl _)) (WaysIn.ways ?_ (by decide) hoA hgA) (CapOk.of (Nat.le_refl _))⟩
    (repeat (first | exact .nil | (apply WaysIn.cons; (case hn => rfl); (case hr => exact hoA); (case hg => exact hgA))))
  · rw [waysL_8] at h
    refine callS_walk tt_ok Try.func76 rfl (by kernel_rfl) ?_
    conv => whnf
    repeat' ((conv => whnf); first | (refine callS_walk tt_ok Try.func74 rfl (by kernel_rfl) ?_) | apply yA | apply yB | ((first | apply zA | apply zC | apply zE | apply zG); (· with_reducible assumption)) | ((first | apply zB | apply zD | apply zF | apply zH); (· with_reducible assumption)) | apply zM | apply zN | apply zO | apply zP | apply zQ | apply zR | apply zS | apply zT | apply zU | (apply zV; (· omega)) | (apply zW; (· omega)) | (apply zX; (· (first | omega | (dsimp only; omega)))) | (apply zY; (try (apply zY; apply zX; (· omega))); apply zX; (· omega); apply zX; (· (first | omega | (dsimp only; omega)))) | ((first | apply zA | apply zC | apply zE | apply zG); (· omega)) | ((first | apply zB | apply zD | apply zF | apply zH); (· omega)) | ((first | apply zI | apply zK); (· with_reducible assumption)) | ((first | apply zJ | apply zL); (· with_reducible assumption)) | fail)
    conv => whnf
    refine ⟨_, HW.fz _ H.size, h _ _ _ (AHeap.le.fz leA (Nat.le_refl _)) (WaysIn.ways ?_ (by decide) hoA hgA) (CapOk.of (Nat.le_refl _))⟩
    (repeat (first | exact .nil | (apply WaysIn.cons; (case hn => rfl); (case hr => exact hoA); (case hg => exact hgA))))
  · rw [waysL_9] at h
    refine callS_walk tt_ok Try.func77 rfl (by kernel_rfl) ?_
    conv => whnf
    repeat' ((conv => whnf); first | (refine callS_walk tt_ok Try.func74 rfl (by kernel_rfl) ?_) | apply yA | apply yB | ((first | apply zA | apply zC | apply zE | apply zG); (· with_reducible assumption)) | ((first | apply zB | apply zD | apply zF | apply zH); (· with_reducible assumption)) | apply zM | apply zN | apply zO | apply zP | apply zQ | apply zR | apply zS | apply zT | apply zU | (apply zV; (· omega)) | (apply zW; (· omega)) | (apply zX; (· (first | omega | (dsimp only; omega)))) | (apply zY; (try (apply zY; apply zX; (· omega))); apply zX; (· omega); apply zX; (· (first | omega | (dsimp only; omega)))) | ((first | apply zA | apply zC | apply zE | apply zG); (· omega)) | ((first | apply zB | apply zD | apply zF | apply zH); (· omega)) | ((first | apply zI | apply zK); (· with_reducible assumption)) | ((first | apply zJ | apply zL); (· with_reducible assumption)) | fail)
    conv => whnf
    refine ⟨_, HW.fz _ H.size, h _ _ _ (AHeap.le.fz leA (Nat.le_refl _)) (WaysIn.ways ?_ (by decide) hoA hgA) (CapOk.of (Nat.le_refl _))⟩
    (repeat (first | exact .nil | (apply WaysIn.cons; (case hn => rfl); (case hr => exact hoA); (case hg => exact hgA))))
  · rw [waysL_10] at h
    refine callS_walk tt_ok Try.func78 rfl (by kernel_rfl) ?_
    conv => whnf
    repeat' ((conv => whnf); first | apply yA | apply yB | ((first | apply zA | apply zC | apply zE | apply zG); (· with_reducible assumption)) | ((first | apply zB | apply zD | apply zF | apply zH); (· with_reducible assumption)) | apply zM | apply zN | apply zO | apply zP | apply zQ | apply zR | apply zS | apply zT | apply zU | (apply zV; (· omega)) | (apply zW; (· omega)) | (apply zX; (· (first | omega | (dsimp only; omega)))) | (apply zY; (try (apply zY; apply zX; (· omega))); apply zX; (· omega); apply zX; (· (first | omega | (dsimp only; omega)))) | ((first | apply yJ | apply yK | apply yL | apply yM | apply yN | apply yO); (· exact hgA); (· exact hsA)) | (apply yNP; (· exact hgA); (· exact hsA)) | ((first | apply zA | apply zC | apply zE | apply zG); (· omega)) | ((first | apply zB | apply zD | apply zF | apply zH); (· omega)) | ((first | apply zI | apply zK); (· with_reducible assumption)) | ((first | apply zJ | apply zL); (· with_reducible assumption)) | fail)
    conv => whnf
    refine ⟨_, HW.fz _ H.size, h _ _ _ (AHeap.le.fz leA (Nat.le_refl _)) (WaysIn.ways ?_ (by decide) hoA hgA) (CapOk.of (Nat.le_refl _))⟩
    (repeat (first | exact .nil | (apply WaysIn.cons; (case hn => rfl); (case hr => exact hoA); (case hg => exact hgA))))
/-! the reference's -/
theorem ways_c {p : Int} {lfe : Bool} {H : AHeap} {K : CK} (hp : 1 ≤ p ∧ p ≤ 10) (h : ∀ H' a c, H.le H' → Ways H' a (waysL p lfe) → CapOk a (waysL p lfe).length c → K (.returned (.slice a (waysL p lfe).length c)) H') : callS P (fnV 61) [iv p, .bool lfe] H K := by
  refine callS_post ?_
  rcases ten_cases hp with rfl | rfl | rfl | rfl | rfl | rfl | rfl | rfl | rfl | rfl
  · rw [waysL_1] at h
    refine callS_walk tt_ok Try.func61 rfl (by kernel_rfl) ?_
    conv => whnf
    repeat' ((conv => whnf); first | (refine callS_walk tt_ok Try.func80 rfl (by kernel_rfl) ?_) | (refine callS_walk tt_ok Try.func60 rfl (by kernel_rfl) ?_) | (apply drawS_auto mixed tt_ok; (· kernel_rfl)) | apply zZ | apply yA | apply yB | ((first | apply zA | apply zC | apply zE | apply zG); (· with_reducible assumption)) | ((first | apply zB | apply zD | apply zF | apply zH); (· with_reducible assumption)) | apply zM | apply zN | apply zO | apply zP | apply zQ | apply zR | apply zS | apply zT | apply zU | (apply zV; (· omega)) | (apply zW; (· omega)) | (apply zX; (· (first | omega | (dsimp only; omega)))) | (apply zY; (try (apply zY; apply zX; (· omega))); apply zX; (· omega); apply zX; (· (first | omega | (dsimp only; omega)))) | ((first | apply yJ | apply yK | apply yL | apply yM | apply yN | apply yO); (· exact hgA); (· exact hsA)) | (apply yNP; (· exact hgA); (· exact hsA)) | ((first | apply zA | apply zC | apply zE | apply zG); (· omega)) | ((first | apply zB | apply zD | apply zF | apply zH); (· omega)) | ((first | apply zI | apply zK); (· with_reducible assumption)) | ((first | apply zJ | apply zL); (· with_reducible assumption)) | fail)
    conv => whnf
    refine ⟨_, HW.fz _ H.size, h _ _ _ (AHeap.le.fz leA (Nat.le_refl _)) (WaysIn.ways ?_ (by decide) hoA hgA) (CapOk.of (Nat.le_refl _))⟩
    (repeat (first | exact .nil | (apply WaysIn.cons; (case hn => rfl); (case hr => exact hoA); (case hg => exact hgA))))
  · rw [waysL_2] at h
    refine callS_walk tt_ok Try.func61 rfl (by kernel_rfl) ?_
    conv => whnf
    repeat' ((conv => whnf); first | (refine callS_walk tt_ok Try.func80 rfl (by kernel_rfl) ?_) | (refine callS_walk tt_ok Try.func60 rfl (by kernel_rfl) ?_) | (apply drawS_auto mixed tt_ok; (· kernel_rfl)) | apply zZ | apply yA | apply yB | ((first | apply zA | apply zC | apply zE | apply zG); (· with_reducible assumption)) | ((first | apply zB | apply zD | apply zF | apply zH); (· with_reducible assumption)) | apply zM | apply zN | apply zO | apply zP | apply zQ | apply zR | apply zS | apply zT | apply zU | (apply zV; (· omega)) | (apply zW; (· omega)) | (apply zX; (· (first | omega | (dsimp only; omega)))) | (apply zY; (try (apply zY; apply zX; (· omega))); apply zX; (· omega); apply zX; (· (first | omega | (dsimp only; omega)))) | ((first | apply yJ | apply yK | apply yL | apply yM | apply yN | apply yO); (· exact hgA); (· exact hsA)) | (apply yNP; (· exact hgA); (· exact hsA)) | ((first | apply zA | apply zC | apply zE | apply zG); (· omega)) | ((first | apply zB | apply zD | apply zF | apply zH); (· omega)) | ((first | apply zI | apply zK); (· with_reducible assumption)) | ((first | apply zJ | apply zL); (· with_reducible assumption)) | fail)
    conv => whnf
    refine ⟨_, HW.fz _ H.size, h _ _ _ (AHeap.le.fz leA (Nat.le_refl _)) (WaysIn.ways ?_ (by decide) hoA hgA) (CapOk.of (Nat.le_refl _))⟩
    (repeat (first | exact .nil | (apply WaysIn.cons; (case hn => rfl); (case hr => exact hoA); (case hg => exact hgA))))
  · rw [waysL_3] at h
    refine callS_walk tt_ok Try.func61 rfl (by kernel_rfl) ?_
    conv => whnf
    repeat' ((conv => whnf); first | (refine callS_walk tt_ok Try.func80 rfl (by kernel_rfl) ?_) | (refine callS_walk tt_ok Try.func60 rfl (by kernel_rfl) ?_) | (apply drawS_auto mixed tt_ok; (· kernel_rfl)) | apply zZ | apply yA | apply yB | ((first | apply zA | apply zC | apply zE | apply zG); (· with_reducible assumption)) | ((first | apply zB | apply zD | apply zF | apply zH); (· with_reducible assumption)) | apply zM | apply zN | apply zO | apply zP | apply zQ | apply zR | apply zS | apply zT | apply zU | (apply zV; (· omega)) | (apply zW; (· omega)) | (apply zX; (· (first | omega | (dsimp only; omega)))) | (apply zY; (try (apply zY; apply zX; (· omega))); apply zX; (· omega); apply zX; (· (first | omega | (dsimp only; omega)))) | ((first | apply yJ | apply yK | apply yL | apply yM | apply yN | apply yO); (· exact hgA); (· exact hsA)) | (apply yNP; (· exact hgA); (· exact hsA)) | ((first | apply zA | apply zC | apply zE | apply zG); (· omega)) | ((first | apply zB | apply zD | apply zF | apply zH); (· omega)) | ((first | apply zI | apply zK); (· with_reducible assumption)) | ((first | apply zJ | apply zL); (· with_reducible assumption)) | fail)
    conv => whnf
    refine ⟨_, HW.fz _ H.size, h _ _ _ (AHeap.le.fz leA (Nat.le_refl _)) (WaysIn.ways ?_ (by decide) hoA hgA) (CapOk.of (Nat.le_refl _))⟩
    (repeat (first | exact .nil | (apply WaysIn.cons; (case hn => rfl); (case hr => exact hoA); (case hg => exact hgA))))
  · rw [waysL_4] at h
    refine callS_walk tt_ok Try.func61 rfl (by kernel_rfl) ?_
    conv => whnf
    repeat' ((conv => whnf); first | (refine callS_walk tt_ok Try.func80 rfl (by kernel_rfl) ?_) | (refine callS_walk tt_ok Try.func60 rfl (by kernel_rfl) ?_) | (apply drawS_auto mixed tt_ok; (· kernel_rfl)) | apply zZ | apply yA | apply yB | ((first | apply zA | apply zC | apply zE | apply zG); (· with_reducible assumption)) | ((first | apply zB | apply zD | apply zF | apply zH); (· with_reducible assumption)) | apply zM | apply zN | apply zO | apply zP | apply zQ | apply zR | apply zS | apply zT | apply zU | (apply zV; (· omega)) | (apply zW; (· omega)) | (apply zX; (· (first | omega | (dsimp only; omega)))) | (apply zY; (try (apply zY; apply zX; (· omega))); apply zX; (· omega); apply zX; (· (first | omega | (dsimp only; omega)))) | ((first | apply yJ | apply yK | apply yL | apply yM | apply yN | apply yO); (· exact hgA); (· exact hsA)) | (apply yNP; (· exact hgA); (· exact hsA)) | ((first | apply zA | apply zC | apply zE | apply zG); (· omega)) | ((first | apply zB | apply zD | apply zF | apply zH); (· omega)) | ((first | apply zI | apply zK); (· with_reducible assumption)) | ((first | apply zJ | apply zL); (· with_reducible assumption)) | fail)
    conv => whnf
    refine ⟨_, HW.fz _ H.size, h _ _ _ (AHeap.le.fz leA (Nat.le_refl _)) (WaysIn.ways ?_ (by decide) hoA hgA) (CapOk.of (Nat.le_refl _))⟩
    (repeat (first | exact .nil | (apply WaysIn.cons; (case hn => rfl); (case hr => exact hoA); (case hg => exact hgA))))
  · cases lfe
    · rw [waysL_5f] at h
      refine callS_walk tt_ok Try.func61 rfl (by kernel_rfl) ?_
      conv => whnf
      repeat' ((conv => whnf); first | (apply drawS_auto mixed tt_ok; (· kernel_rfl)) | apply zZ | apply yA | apply yB | ((first | apply zA | apply zC | apply zE | apply zG); (· with_reducible assumption)) | ((first | apply zB | apply zD | apply zF | apply zH); (· with_reducible assumption)) | apply zM | apply zN | apply zO | apply zP | apply zQ | apply zR | apply zS | apply zT | apply zU | (apply zV; (· omega)) | (apply zW; (· omega)) | (apply zX; (· (first | omega | (dsimp only; omega)))) | (apply zY; (try (apply zY; apply zX; (· omega))); apply zX; (· omega); apply zX; (· (first | omega | (dsimp only; omega)))) | ((first | apply yJ | apply yK | apply yL | apply yM | apply yN | apply yO); (· exact hgA); (· exact hsA)) | (apply yNP; (· exact hgA); (· exact hsA)) | ((first | apply zA | apply zC | apply zE | apply zG); (· omega)) | ((first | apply zB | apply zD | apply zF | apply zH); (· omega)) | ((first | apply zI | apply zK); (· with_reducible assumption)) | ((first | apply zJ | apply zL); (· with_reducible assumption)) | fail)
      conv => whnf
      exact ⟨_, HW.refl _, h _ none 0 (AHeap.le.refl _) .nil ⟨fun _ => rfl, Nat.le_refl _⟩⟩
    · rw [waysL_5t] at h
      refine callS_walk tt_ok Try.func61 rfl (by kernel_rfl) ?_
      conv => whnf
      repeat' ((conv => whnf); first | (refine callS_walk tt_ok Try.func80 rfl (by kernel_rfl) ?_) | (refine callS_walk tt_ok Try.func60 rfl (by kernel_rfl) ?_) | (apply drawS_auto mixed tt_ok; (· kernel_rfl)) | apply zZ | apply yA | apply yB | ((first | apply zA | apply zC | apply zE | apply zG); (· with_reducible assumption)) | ((first | apply zB | apply zD | apply zF | apply zH); (· with_reducible assumption)) | apply zM | apply zN | apply zO | apply zP | apply zQ | apply zR | apply zS | apply zT | apply zU | (apply zV; (· omega)) | (apply zW; (· omega)) | (apply zX; (· (first | omega | (dsimp only; omega)))) | (apply zY; (try (apply zY; apply zX; (· omega))); apply zX; (· omega); apply zX; (· (first | omega | (dsimp only; omega)))) | ((first | apply yJ | apply yK | apply yL | apply yM | apply yN | apply yO); (· exact hgA); (· exact hsA)) | (apply yNP; (· exact hgA); (· exact hsA)) | ((first | apply zA | apply zC | apply zE | apply zG); (· omega)) | ((first | apply zB | apply zD | apply zF | apply zH); (· omega)) | ((first | apply zI | apply zK); (· with_reducible assumption)) | ((first | apply zJ | apply zL); (· with_reducible assumption)) | fail)
      conv => whnf
      refine ⟨_, HW.fz _ H.size, h _ _ _ (AHeap.le.fz leA (Nat.le_refl _)) (WaysIn.ways ?_ (by decide) hoA hgA) (CapOk.of (Nat.le_refl _))⟩
      (repeat (first | exact .nil | (apply WaysIn.cons; (case hn => rfl); (case hr => exact hoA); (case hg => exact hgA))))
  · rw [waysL_6] at h
    refine callS_walk tt_ok Try.func61 rfl (by kernel_rfl) ?_
    conv => whnf
    repeat' ((conv => whnf); first | (refine callS_walk tt_ok Try.func80 rfl (by kernel_rfl) ?_) | (refine callS_walk tt_ok Try.func60 rfl (by kernel_rfl) ?_) | (apply drawS_auto mixed tt_ok; (· kernel_rfl)) | apply zZ | apply yA | apply yB | ((first | apply zA | apply zC | apply zE | apply zG); (· with_reducible assumption)) | ((first | apply zB | apply zD | apply zF | apply zH); (· with_reducible assumption)) | apply zM | apply zN | apply zO | apply zP | apply zQ | apply zR | apply zS | apply zT | apply zU | (apply zV; (· omega)) | (apply zW; (· omega)) | (apply zX; (· (first | omega | (dsimp only; omega)))) | (apply zY; (try (apply zY; apply zX; (· omega))); apply zX; (· omega); apply zX; (· (first | omega | (dsimp only; omega)))) | ((first | apply yJ | apply yK | apply yL | apply yM | apply yN | apply yO); (· exact hgA); (· exact hsA)) | (apply yNP; (· exact hgA); (· exact hsA)) | ((first | apply zA | apply zC | apply zE | apply zG); (· omega)) | ((first | apply zB | apply zD | apply zF | apply zH); (· omega)) | ((first | apply zI | apply zK); (· with_reducible assumption)) | ((first | apply zJ | apply zL); (· with_reducible assumption)) | fail)
    conv => whnf
    refine ⟨_, HW.fz _ H.size, h _ _ _ (AHeap.le.fz leA (Nat.le_refl _)) (WaysIn.ways ?_ (by decide) hoA hgA) (CapOk.of (Nat.le_refl _))⟩
    (repeat (first | exact .nil | (apply WaysIn.cons; (case hn => rfl); (case hr => exact hoA); (case hg => exact hgA))))
  · rw [waysL_7] at h
    refine callS_walk tt_ok Try.func61 rfl (by kernel_rfl) ?_
    conv => whnf
    repeat' ((conv => whnf); first | (refine callS_walk tt_ok Try.func80 rfl (by kernel_rfl) ?_) | (refine callS_walk tt_ok Try.func60 rfl (by kernel_rfl) ?_) | (apply drawS_auto mixed tt_ok; (· kernel_rfl)) | apply zZ | apply yA | apply yB | ((first | apply zA | apply zC | apply zE | apply zG); (· with_reducible assumption)) | ((first | apply zB | apply zD | apply zF | apply zH); (· with_reducible assumption)) | apply zM | apply zN | apply zO | apply zP | apply zQ | apply zR | apply zS | apply zT | apply zU | (apply zV; (· omega)) | (apply zW; (· omega)) | (apply zX; (· (first | omega | (dsimp only; omega)))) | (apply zY; (try (apply zY; apply zX; (· omega))); apply zX; (· omega); apply zX; (· (first | omega | (dsimp only; omega)))) | ((first | apply yJ | apply yK | apply yL | apply yM | apply yN | apply yO); (· exact hgA); (· exact hsA)) | (apply yNP; (· exact hgA); (· exact hsA)) | ((first | apply zA | apply zC | apply zE | apply zG); (· omega)) | ((first | apply zB | apply zD | apply zF | apply zH); (· omega)) | ((first | apply zI | apply zK); (· with_reducible assumption)) | ((first | apply zJ | apply zL); (· with_reducible assumption)) | fail)
    conv => whnf
    refine ⟨_, HW.fz _ H.size, h _ _ _ (AHeap.le.fz leA (Nat.le_refl _)) (WaysIn.ways ?_ (by decide) hoA hgA) (CapOk.of (Nat.le_refl _))⟩
    (repeat (first | exact .nil | (apply WaysIn.cons; (case hn => rfl); (case hr => exact hoA); (case hg => exact hgA))))
  · rw [waysL_8] at h
    refine callS_walk tt_ok Try.func61 rfl (by kernel_rfl) ?_
    conv => whnf
    repeat' ((conv => whnf); first | (refine callS_walk tt_ok Try.func80 rfl (by kernel_rfl) ?_) | (refine callS_walk tt_ok Try.func60 rfl (by kernel_rfl) ?_) | (apply drawS_auto mixed tt_ok; (· kernel_rfl)) | apply zZ | apply yA | apply yB | ((first | apply zA | apply zC | apply zE | apply zG); (· with_reducible assumption)) | ((first | apply zB | apply zD | apply zF | apply zH); (· with_reducible assumption)) | apply zM | apply zN | apply zO | apply zP | apply zQ | apply zR | apply zS | apply zT | apply zU | (apply zV; (· omega)) | (apply zW; (· omega)) | (apply zX; (· (first | omega | (dsimp only; omega)))) | (apply zY; (try (apply zY; apply zX; (· omega))); apply zX; (· omega); apply zX; (· (first | omega | (dsimp only; omega)))) | ((first | apply yJ | apply yK | apply yL | apply yM | apply yN | apply yO); (· exact hgA); (· exact hsA)) | (apply yNP; (· exact hgA); (· exact hsA)) | ((first | apply zA | apply zC | apply zE | apply zG); (· omega)) | ((first | apply zB | apply zD | apply zF | apply zH); (· omega)) | ((first | apply zI | apply zK); (· with_reducible assumption)) | ((first | apply zJ | apply zL); (· with_reducible assumption)) | fail)
    conv => whnf
    refine ⟨_, HW.fz _ H.size, h _ _ _ (AHeap.le.fz leA (Nat.le_refl _)) (WaysIn.ways ?_ (by decide) hoA hgA) (CapOk.of (Nat.le_refl _))⟩
    (repeat (first | exact .nil | (apply WaysIn.cons; (case hn => rfl); (case hr => exact hoA); (case hg => exact hgA))))
  · rw [waysL_9] at h
    refine callS_walk tt_ok Try.func61 rfl (by kernel_rfl) ?_
    conv => whnf
    repeat' ((conv => whnf); first | (refine callS_walk tt_ok Try.func80 rfl (by kernel_rfl) ?_) | (refine callS_walk tt_ok Try.func60 rfl (by kernel_rfl) ?_) | (apply drawS_auto mixed tt_ok; (· kernel_rfl)) | apply zZ | apply yA | apply yB | ((first | apply zA | apply zC | apply zE | apply zG); (· with_reducible assumption)) | ((first | apply zB | apply zD | apply zF | apply zH); (· with_reducible assumption)) | apply zM | apply zN | apply zO | apply zP | apply zQ | apply zR | apply zS | apply zT | apply zU | (apply zV; (· omega)) | (apply zW; (· omega)) | (apply zX; (· (first | omega | (dsimp only; omega)))) | (apply zY; (try (apply zY; apply zX; (· omega))); apply zX; (· omega); apply zX; (· (first | omega | (dsimp only; omega)))) | ((first | apply yJ | apply yK | apply yL | apply yM | apply yN | apply yO); (· exact hgA); (· exact hsA)) | (apply yNP; (· exact hgA); (· exact hsA)) | ((first | apply zA | apply zC | apply zE | apply zG); (· omega)) | ((first | apply zB | apply zD | apply zF | apply zH); (· omega)) | ((first | apply zI | apply zK); (· with_reducible assumption)) | ((first | apply zJ | apply zL); (· with_reducible assumption)) | fail)
    conv => whnf
    refine ⟨_, HW.fz _ H.size, h _ _ _ (AHeap.le.fz leA (Nat.le_refl _)) (WaysIn.ways ?_ (by decide) hoA hgA) (CapOk.of (Nat.le_refl _))⟩
    (repeat (first | exact .nil | (apply WaysIn.cons; (case hn => rfl); (case hr => exact hoA); (case hg => exact hgA))))
  · rw [waysL_10] at h
    refine callS_walk tt_ok Try.func61 rfl (by kernel_rfl) ?_
    conv => whnf
    repeat' ((conv => whnf); first | (refine callS_walk tt_ok Try.func80 rfl (by kernel_rfl) ?_) | (refine callS_walk tt_ok Try.func60 rfl (by kernel_rfl) ?_) | (apply drawS_auto mixed tt_ok; (· kernel_rfl)) | apply zZ | apply yA | apply yB | ((first | apply zA | apply zC | apply zE | apply zG); (· with_reducible assumption)) | ((first | apply zB | apply zD | apply zF | apply zH); (· with_reducible assumption)) | apply zM | apply zN | apply zO | apply zP | apply zQ | apply zR | apply zS | apply zT | apply zU | (apply zV; (· omega)) | (apply zW; (· omega)) | (apply zX; (· (first | omega | (dsimp only; omega)))) | (apply zY; (try (apply zY; apply zX; (· omega))); apply zX; (· omega); apply zX; (· (first | omega | (dsimp only; omega)))) | ((first | apply yJ | apply yK | apply yL | apply yM | apply yN | apply yO); (· exact hgA); (· exact hsA)) | (apply yNP; (· exact hgA); (· exact hsA)) | ((first | apply zA | apply zC | apply zE | apply zG); (· omega)) | ((first | apply zB | apply zD | apply zF | apply zH); (· omega)) | ((first | apply zI | apply zK); (· with_reducible assumption)) | ((first | apply zJ | apply zL); (· with_reducible assumption)) | fail)
    conv => whnf
    refine ⟨_, HW.fz _ H.size, h _ _ _ (AHeap.le.fz leA (Nat.le_refl _)) (WaysIn.ways ?_ (by decide) hoA hgA) (CapOk.of (Nat.le_refl _))⟩
    (repeat (first | exact .nil | (apply WaysIn.cons; (case hn => rfl); (case hr => exact hoA); (case hg => exact hgA))))
end Go.Abs
