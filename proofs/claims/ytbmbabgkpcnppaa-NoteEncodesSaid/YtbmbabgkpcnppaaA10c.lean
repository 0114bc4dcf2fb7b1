/- Reading notes byte by byte: what a byte does, and the contracts of the program's machine. No conditions beyond those stated. -/
import Derived.Test.YtbmbabgkpcnppaaT10c
set_option linter.all false
set_option maxHeartbeats 1000000
set_option maxRecDepth 20000
namespace Go.Abs
open Go Go.Proofs

def bstr (bs : List Int) : ByteArray := strV (bs.map (Value.int .u8))
theorem bstr_def (bs : List Int) : bstr bs = strV (bs.map (Value.int .u8)) := rfl
theorem allU8_map : ∀ bs : List Int, allU8 (bs.map (Value.int .u8)) = true
  | [] => rfl
  | _ :: bs => allU8_map bs
structure Ev where
  kind : Int
  ch : Int
  a : Int
  b : Int
  txt : ByteArray
def ev0 : Ev := ⟨0, 0, 0, 0, .empty⟩
def evL (fr : Int) (e : Ev) : List Value := [iv fr, iv e.kind, iv e.ch, iv e.a, iv e.b, .string e.txt]
def evO (o : Option Ev) : Ev := match o with | none => ev0 | some e => e
structure MS where
  run : Int
  beg : Int
  sent : Bool
  dat : List Int
def need (b : Int) : Nat := if (b - 112) / 16 = 5 ∨ (b - 112) / 16 = 6 then 1 else 2
def evt (st : Int) (d : List Int) : Ev := ⟨if (st - 112) / 16 = 2 ∧ (if 1 < d.length then d.getD 1 0 else 0) = 0 then 1 else (st - 112) / 16, st % 16, d.getD 0 0, if 1 < d.length then d.getD 1 0 else 0, .empty⟩
def begS (st : Int) (snt : Bool) : MS := ⟨if st = 240 then 0 else st, st, snt, []⟩
def pushD (c : Int) (S : MS) : MS × Option Ev × Bool :=
  if (S.dat ++ [c]).length < need S.beg then (⟨S.run, S.beg, S.sent, S.dat ++ [c]⟩, none, false) else (⟨S.run, 0, S.sent, []⟩, some (evt S.beg (S.dat ++ [c])), false)
def stepS (c : Int) (S : MS) : MS × Option Ev × Bool :=
  if 248 ≤ c then (S, some ⟨9, 0, c - 248, 0, .empty⟩, false)
  else if S.beg = 240 then
    if c = 247 then (⟨S.run, 0, S.sent, []⟩, some ⟨8, 0, 0, 0, bstr S.dat⟩, false)
    else if 127 < c ∨ S.dat.length = 200 then (S, none, true)
    else (⟨S.run, S.beg, S.sent, S.dat ++ [c]⟩, none, false)
  else if S.beg = 0 ∧ 128 ≤ c ∧ c ≤ 240 then (begS c true, none, false)
  else if 127 < c ∨ (S.beg = 0 ∧ S.run = 0) then (S, none, true)
  else pushD c (if S.beg = 0 then begS S.run false else S)
structure OkS (S : MS) : Prop where
  run : S.run = 0 ∨ 128 ≤ S.run ∧ S.run < 240
  st : (S.beg = 0 ∧ S.dat = []) ∨ (S.beg = 240 ∧ S.run = 0 ∧ S.sent = true ∧ S.dat.length ≤ 200) ∨ (128 ≤ S.beg ∧ S.beg < 240 ∧ S.run = S.beg ∧ S.dat.length < need S.beg)
  dat : ∀ x ∈ S.dat, 0 ≤ x ∧ x < 128
theorem need_bd (b : Int) : 1 ≤ need b ∧ need b ≤ 2 := by unfold need; split <;> omega
theorem ok_pushD {c : Int} {S : MS} (h : OkS S) (hb : 128 ≤ S.beg ∧ S.beg < 240) (hc : 0 ≤ c ∧ c < 128) : OkS (pushD c S).1 := by
  unfold pushD
  split
  · rename_i hl
    refine ⟨h.run, ?_, fun x hx => ?_⟩
    · rcases h.st with h1 | h1 | h1
      · omega
      · omega
      · exact .inr (.inr ⟨h1.1, h1.2.1, h1.2.2.1, hl⟩)
    · rcases List.mem_append.1 hx with hx | hx
      · exact h.dat x hx
      · rw [List.mem_singleton] at hx; omega
  · exact ⟨h.run, .inl ⟨rfl, rfl⟩, fun x hx => absurd hx (by simp)⟩
theorem ok_beg {st : Int} {snt : Bool} (h : 128 ≤ st ∧ st < 240 ∨ st = 240 ∧ snt = true) : OkS (begS st snt) := by
  have hn := need_bd st
  refine ⟨?_, ?_, fun x hx => absurd hx (by simp [begS])⟩
  · unfold begS; dsimp only; split <;> omega
  · rcases h with h | ⟨rfl, rfl⟩
    · exact .inr (.inr ⟨h.1, h.2, by unfold begS; dsimp only; rw [if_neg (by omega)], by unfold begS; dsimp only; simp; omega⟩)
    · exact .inr (.inl ⟨rfl, by simp [begS], rfl, by simp [begS]⟩)
theorem ok_step {c : Int} {S : MS} (h : OkS S) (hc : 0 ≤ c ∧ c < 256) : OkS (stepS c S).1 := by
  unfold stepS
  split
  · exact h
  · split
    · split
      · exact ⟨h.run, .inl ⟨rfl, rfl⟩, fun x hx => absurd hx (by simp)⟩
      · split
        · exact h
        · rename_i h1 h2 h3 h4
          refine ⟨h.run, ?_, fun x hx => ?_⟩
          · rcases h.st with g | g | g
            · omega
            · exact .inr (.inl ⟨g.1, g.2.1, g.2.2.1, by simp; omega⟩)
            · omega
          · rcases List.mem_append.1 hx with hx | hx
            · exact h.dat x hx
            · rw [List.mem_singleton] at hx; omega
    · split
      · rename_i h1 h2 h3
        rcases (show c < 240 ∨ c = 240 by omega) with g | g
        · exact ok_beg (.inl ⟨by omega, g⟩)
        · exact ok_beg (.inr ⟨g, rfl⟩)
      · split
        · exact h
        · rename_i h1 h2 h3 h4
          by_cases hb : S.beg = 0
          · rw [if_pos hb]
            have hr := h.run
            exact ok_pushD (ok_beg (by omega)) (show 128 ≤ S.run ∧ S.run < 240 by omega) (by omega)
          · rw [if_neg hb]
            have hs := h.st
            exact ok_pushD h (by omega) (by omega)
/-! the machine in memory -/
def mst (S : MS) : Int := if S.beg = 0 then 0 else if S.beg = 240 then 2 else 1
structure MachP (H : AHeap) (mb po : Nat) (br : Bool) (pv : Value) (S : MS) (rest : List Value) : Prop where
  g : H.get mb = some (.cells ([iv (mst S), .int .u8 S.run, .bool br, pv] ++ rest) true 0)
  lt : mb < H.size
  bare : S.beg ≠ 0 → S.beg ≠ 240 → br = !S.sent
  pt : (pv = .slice none 0 0 ∧ S.dat = [] ∧ po = mb) ∨ (pv = .slice (some ⟨po, 0, none⟩) S.dat.length S.dat.length ∧ H.get po = some (.cells (S.dat.map (Value.int .u8)) true 1) ∧ po < H.size ∧ po ≠ mb ∧ S.dat ≠ [])
structure MFr (H H' : AHeap) (mb po po' : Nat) : Prop where
  size : H.size ≤ H'.size
  get : ∀ j, j < H.size → j ≠ mb → j ≠ po → H'.get j = H.get j
  po : po' = po ∨ po' = mb ∨ H.size ≤ po'
theorem MFr.of {H H' : AHeap} {mb po : Nat} (h : H.le H') : MFr H H' mb po po := ⟨h.size, fun j hj _ _ => h.get j hj, .inl rfl⟩
theorem MachP.le {H H' : AHeap} {mb po : Nat} {br : Bool} {pv : Value} {S : MS} {rest : List Value} (h : MachP H mb po br pv S rest) (hle : H.le H') : MachP H' mb po br pv S rest :=
  ⟨(hle.get _ h.lt).trans h.g, Nat.lt_of_lt_of_le h.lt hle.size, h.bare, h.pt.imp id fun ⟨h1, h2, h3, h4⟩ => ⟨h1, (hle.get _ h3).trans h2, Nat.lt_of_lt_of_le h3 hle.size, h4⟩⟩
abbrev wrongP : PanicEntry := { v := .iface 90 (.agg #[]), recovered := false }
section
variable {mb po : Nat} {br : Bool} {pv : Value} {S : MS} {rest : List Value} {c : Int} {H : AHeap} {K : CK}
theorem mclocks_c (hc : 248 ≤ c ∧ c < 256) (h : ∀ H', H.le H' → K (.returned (.tuple #[.agg ⟨evL 0 ⟨9, 0, c - 248, 0, .empty⟩⟩, .bool true])) H') : callS P (.func (.func 85) #[.pointer (some ⟨mb, 0, none⟩)] #[]) [.int .u8 c] H K := by
  refine callS_walk tt_ok Try.func85 rfl (by kernel_rfl) ?_
  conv => whnf
  repeat' ((conv => whnf); first | (apply drawS_auto mixed tt_ok; (· kernel_rfl)) | apply zZ | apply yA | apply yB | ((first | apply zA | apply zC | apply zE | apply zG); (· with_reducible assumption)) | ((first | apply zB | apply zD | apply zF | apply zH); (· with_reducible assumption)) | apply zM | apply zN | apply zO | apply zP | apply zQ | apply zR | apply zS | apply zT | apply zU | (apply zV; (· omega)) | (apply zW; (· omega)) | (apply zX; (· (first | omega | (dsimp only; omega)))) | (apply zY; (try (apply zY; apply zX; (· omega))); apply zX; (· omega); apply zX; (· (first | omega | (dsimp only; omega)))) | ((first | apply yJ | apply yK | apply yL | apply yM | apply yN | apply yO); (· exact hgA); (· exact hsA)) | (apply yNP; (· exact hgA); (· exact hsA)) | ((first | apply zA | apply zC | apply zE | apply zG); (· omega)) | ((first | apply zB | apply zD | apply zF | apply zH); (· omega)) | ((first | apply zI | apply zK); (· with_reducible assumption)) | ((first | apply zJ | apply zL); (· with_reducible assumption)) | fail)
  conv => whnf
  exact h _ leA
theorem statused_c (hM : MachP H mb po br pv S rest) (hb : S.beg = 0) (hc : 128 ≤ c ∧ c < 240) (h : ∀ H', MFr H H' mb po mb → MachP H' mb mb false (.slice none 0 0) (begS c true) rest → K (.returned (.tuple #[.agg ⟨evL 0 ev0⟩, .bool false])) H') :
    callS P (.func (.func 83) #[.pointer (some ⟨mb, 0, none⟩)] #[]) [.int .u8 c] H K := by
  obtain ⟨g, hlt, _, _⟩ := hM
  have e0 : mst S = 0 := by unfold mst; rw [if_pos hb]
  have e1 : mst (begS c true) = 1 := by unfold mst begS; dsimp only; rw [if_neg (by omega), if_neg (by omega)]
  have e2 : (begS c true).run = c := by unfold begS; dsimp only; rw [if_neg (by omega)]
  rw [e0] at g
  refine callS_walk tt_ok Try.func83 rfl (by kernel_rfl) ?_
  conv => whnf
  repeat' ((conv => whnf); first | ((first | (apply vB; (case h => with_reducible assumption)) | (apply vA; (case h => with_reducible assumption)) | (apply vC; (case h => with_reducible assumption))); (case hk => exact kpA); (case he => omega)) | ((first | (apply vI; (case h => with_reducible assumption)) | (apply vG; (case h => with_reducible assumption)) | (apply vK; (case h => with_reducible assumption))); (case hk => exact kpA); (case he => omega); (case hp => omega); (case' g => intro hr_ hc_)) | ((first | (apply vJ; (case h => with_reducible assumption)) | (apply vH; (case h => with_reducible assumption)) | (apply vL; (case h => with_reducible assumption))); (case hk => exact kpA); (case he => omega); (case' g => intro hr_ hc_)) | apply yA | apply yB | ((first | apply zA | apply zC | apply zE | apply zG); (· with_reducible assumption)) | ((first | apply zB | apply zD | apply zF | apply zH); (· with_reducible assumption)) | apply zM | apply zN | apply zO | apply zP | apply zQ | apply zR | apply zS | apply zT | apply zU | (apply zV; (· omega)) | (apply zW; (· omega)) | (apply zX; (· (first | omega | (dsimp only; omega)))) | (apply zY; (try (apply zY; apply zX; (· omega))); apply zX; (· omega); apply zX; (· (first | omega | (dsimp only; omega)))) | ((first | apply yJ | apply yK | apply yL | apply yM | apply yN | apply yO); (· exact hgA); (· exact hsA)) | (apply yNP; (· exact hgA); (· exact hsA)) | ((first | apply zA | apply zC | apply zE | apply zG); (· omega)) | ((first | apply zB | apply zD | apply zF | apply zH); (· omega)) | ((first | apply zI | apply zK); (· with_reducible assumption)) | ((first | apply zJ | apply zL); (· with_reducible assumption)) | fail)
  conv => whnf
  refine h _ ⟨?_, fun j h1 h2 h3 => ?_, .inr (.inl rfl)⟩ ⟨?_, ?_, fun _ _ => rfl, .inl ⟨rfl, rfl, rfl⟩⟩
  · exact hoA
  · exact hgA
  · rw [e1, e2]
    exact hgA
  · exact hoA
theorem statused_no (hM : MachP H mb po br pv S rest) (hb : S.beg ≠ 0) (h : ∀ H', H.le H' → K (.panicked [wrongP]) H') :
    callS P (.func (.func 83) #[.pointer (some ⟨mb, 0, none⟩)] #[]) [.int .u8 c] H K := by
  obtain ⟨g, hlt, _, _⟩ := hM
  have e0 : mst S ≠ 0 := by unfold mst; rw [if_neg hb]; split <;> omega
  refine callS_walk tt_ok Try.func83 rfl (by kernel_rfl) ?_
  conv => whnf
  repeat' ((conv => whnf); first | ((first | (apply vB; (case h => with_reducible assumption)) | (apply vA; (case h => with_reducible assumption)) | (apply vC; (case h => with_reducible assumption))); (case hk => exact kpA); (case he => omega)) | ((first | (apply vI; (case h => with_reducible assumption)) | (apply vG; (case h => with_reducible assumption)) | (apply vK; (case h => with_reducible assumption))); (case hk => exact kpA); (case he => omega); (case hp => omega); (case' g => intro hr_ hc_)) | ((first | (apply vJ; (case h => with_reducible assumption)) | (apply vH; (case h => with_reducible assumption)) | (apply vL; (case h => with_reducible assumption))); (case hk => exact kpA); (case he => omega); (case' g => intro hr_ hc_)) | apply yA | apply yB | ((first | apply zA | apply zC | apply zE | apply zG); (· with_reducible assumption)) | ((first | apply zB | apply zD | apply zF | apply zH); (· with_reducible assumption)) | apply zM | apply zN | apply zO | apply zP | apply zQ | apply zR | apply zS | apply zT | apply zU | (apply zV; (· omega)) | (apply zW; (· omega)) | (apply zX; (· (first | omega | (dsimp only; omega)))) | (apply zY; (try (apply zY; apply zX; (· omega))); apply zX; (· omega); apply zX; (· (first | omega | (dsimp only; omega)))) | ((first | apply yJ | apply yK | apply yL | apply yM | apply yN | apply yO); (· exact hgA); (· exact hsA)) | (apply yNP; (· exact hgA); (· exact hsA)) | ((first | apply zA | apply zC | apply zE | apply zG); (· omega)) | ((first | apply zB | apply zD | apply zF | apply zH); (· omega)) | ((first | apply zI | apply zK); (· with_reducible assumption)) | ((first | apply zJ | apply zL); (· with_reducible assumption)) | fail)
  conv => whnf
  exact h _ leA
theorem systems_beg (hM : MachP H mb po br pv S rest) (hb : S.beg = 0) (hc : c = 240) (h : ∀ H', MFr H H' mb po mb → MachP H' mb mb br (.slice none 0 0) (begS c true) rest → K (.returned (.tuple #[.agg ⟨evL 0 ev0⟩, .bool false])) H') :
    callS P (.func (.func 84) #[.pointer (some ⟨mb, 0, none⟩)] #[]) [.int .u8 c] H K := by
  obtain ⟨g, hlt, _, _⟩ := hM
  subst hc
  have e0 : mst S = 0 := by unfold mst; rw [if_pos hb]
  rw [e0] at g
  refine callS_walk tt_ok Try.func84 rfl (by kernel_rfl) ?_
  conv => whnf
  repeat' ((conv => whnf); first | ((first | (apply vB; (case h => with_reducible assumption)) | (apply vA; (case h => with_reducible assumption)) | (apply vC; (case h => with_reducible assumption))); (case hk => exact kpA); (case he => omega)) | ((first | (apply vI; (case h => with_reducible assumption)) | (apply vG; (case h => with_reducible assumption)) | (apply vK; (case h => with_reducible assumption))); (case hk => exact kpA); (case he => omega); (case hp => omega); (case' g => intro hr_ hc_)) | ((first | (apply vJ; (case h => with_reducible assumption)) | (apply vH; (case h => with_reducible assumption)) | (apply vL; (case h => with_reducible assumption))); (case hk => exact kpA); (case he => omega); (case' g => intro hr_ hc_)) | (apply drawS_auto mixed tt_ok; (· kernel_rfl)) | apply zZ | apply yA | apply yB | ((first | apply zA | apply zC | apply zE | apply zG); (· with_reducible assumption)) | ((first | apply zB | apply zD | apply zF | apply zH); (· with_reducible assumption)) | apply zM | apply zN | apply zO | apply zP | apply zQ | apply zR | apply zS | apply zT | apply zU | (apply zV; (· omega)) | (apply zW; (· omega)) | (apply zX; (· (first | omega | (dsimp only; omega)))) | (apply zY; (try (apply zY; apply zX; (· omega))); apply zX; (· omega); apply zX; (· (first | omega | (dsimp only; omega)))) | ((first | apply yJ | apply yK | apply yL | apply yM | apply yN | apply yO); (· exact hgA); (· exact hsA)) | (apply yNP; (· exact hgA); (· exact hsA)) | ((first | apply zA | apply zC | apply zE | apply zG); (· omega)) | ((first | apply zB | apply zD | apply zF | apply zH); (· omega)) | ((first | apply zI | apply zK); (· with_reducible assumption)) | ((first | apply zJ | apply zL); (· with_reducible assumption)) | fail)
  conv => whnf
  refine h _ ⟨?_, fun j h1 h2 h3 => ?_, .inr (.inl rfl)⟩ ⟨?_, ?_, fun _ h2 => absurd rfl h2, .inl ⟨rfl, rfl, rfl⟩⟩
  · exact hoA
  · exact hgA
  · exact hgA
  · exact hoA
theorem systems_end (hM : MachP H mb po br pv S rest) (hb : S.beg = 240) (hc : c = 247) (h : ∀ H', MFr H H' mb po mb → MachP H' mb mb br (.slice none 0 0) ⟨S.run, 0, S.sent, []⟩ rest → K (.returned (.tuple #[.agg ⟨evL 0 ⟨8, 0, 0, 0, bstr S.dat⟩⟩, .bool true])) H') :
    callS P (.func (.func 84) #[.pointer (some ⟨mb, 0, none⟩)] #[]) [.int .u8 c] H K := by
  obtain ⟨g, hlt, _, hp⟩ := hM
  subst hc
  have e0 : mst S = 2 := by unfold mst; rw [if_neg (by omega), if_pos hb]
  rw [e0] at g
  rcases hp with ⟨rfl, hd, rfl⟩ | ⟨rfl, gp, hpl, hpn, _⟩
  · rw [hd] at h
    have eb : bstr [] = .empty := rfl
    rw [eb] at h
    refine callS_walk tt_ok Try.func84 rfl (by kernel_rfl) ?_
    conv => whnf
    repeat' ((conv => whnf); first | ((first | (apply vB; (case h => with_reducible assumption)) | (apply vA; (case h => with_reducible assumption)) | (apply vC; (case h => with_reducible assumption))); (case hk => exact kpA); (case he => omega)) | ((first | (apply vI; (case h => with_reducible assumption)) | (apply vG; (case h => with_reducible assumption)) | (apply vK; (case h => with_reducible assumption))); (case hk => exact kpA); (case he => omega); (case hp => omega); (case' g => intro hr_ hc_)) | ((first | (apply vJ; (case h => with_reducible assumption)) | (apply vH; (case h => with_reducible assumption)) | (apply vL; (case h => with_reducible assumption))); (case hk => exact kpA); (case he => omega); (case' g => intro hr_ hc_)) | (apply drawS_auto mixed tt_ok; (· kernel_rfl)) | apply zZ | apply yA | apply yB | ((first | apply zA | apply zC | apply zE | apply zG); (· with_reducible assumption)) | ((first | apply zB | apply zD | apply zF | apply zH); (· with_reducible assumption)) | apply zM | apply zN | apply zO | apply zP | apply zQ | apply zR | apply zS | apply zT | apply zU | (apply zV; (· omega)) | (apply zW; (· omega)) | (apply zX; (· (first | omega | (dsimp only; omega)))) | (apply zY; (try (apply zY; apply zX; (· omega))); apply zX; (· omega); apply zX; (· (first | omega | (dsimp only; omega)))) | ((first | apply yJ | apply yK | apply yL | apply yM | apply yN | apply yO); (· exact hgA); (· exact hsA)) | (apply yNP; (· exact hgA); (· exact hsA)) | ((first | apply zA | apply zC | apply zE | apply zG); (· omega)) | ((first | apply zB | apply zD | apply zF | apply zH); (· omega)) | ((first | apply zI | apply zK); (· with_reducible assumption)) | ((first | apply zJ | apply zL); (· with_reducible assumption)) | fail)
    conv => whnf
    refine h _ ⟨?_, fun j h1 h2 h3 => ?_, .inr (.inl rfl)⟩ ⟨?_, ?_, fun h1 _ => absurd rfl h1, .inl ⟨rfl, rfl, rfl⟩⟩
    · exact hoA
    · exact hgA
    · exact hgA
    · exact hoA
  · rw [bstr_def] at h
    refine callS_walk tt_ok Try.func84 rfl (by kernel_rfl) ?_
    conv => whnf
    repeat' ((conv => whnf); first | rw [List.drop_zero, List.take_of_length_le (by simp), allU8_map] | ((first | (apply vB; (case h => with_reducible assumption)) | (apply vA; (case h => with_reducible assumption)) | (apply vC; (case h => with_reducible assumption))); (case hk => exact kpA); (case he => omega)) | ((first | (apply vI; (case h => with_reducible assumption)) | (apply vG; (case h => with_reducible assumption)) | (apply vK; (case h => with_reducible assumption))); (case hk => exact kpA); (case he => omega); (case hp => omega); (case' g => intro hr_ hc_)) | ((first | (apply vJ; (case h => with_reducible assumption)) | (apply vH; (case h => with_reducible assumption)) | (apply vL; (case h => with_reducible assumption))); (case hk => exact kpA); (case he => omega); (case' g => intro hr_ hc_)) | (apply drawS_auto mixed tt_ok; (· kernel_rfl)) | apply zZ | apply yA | apply yB | ((first | apply zA | apply zC | apply zE | apply zG); (· with_reducible assumption)) | ((first | apply zB | apply zD | apply zF | apply zH); (· with_reducible assumption)) | apply zM | apply zN | apply zO | apply zP | apply zQ | apply zR | apply zS | apply zT | apply zU | (apply zV; (· omega)) | (apply zW; (· omega)) | (apply zX; (· (first | omega | (dsimp only; omega)))) | (apply zY; (try (apply zY; apply zX; (· omega))); apply zX; (· omega); apply zX; (· (first | omega | (dsimp only; omega)))) | ((first | apply yJ | apply yK | apply yL | apply yM | apply yN | apply yO); (· exact hgA); (· exact hsA)) | (apply yNP; (· exact hgA); (· exact hsA)) | ((first | apply zA | apply zC | apply zE | apply zG); (· omega)) | ((first | apply zB | apply zD | apply zF | apply zH); (· omega)) | ((first | apply zI | apply zK); (· with_reducible assumption)) | ((first | apply zJ | apply zL); (· with_reducible assumption)) | fail)
    conv => whnf
    refine h _ ⟨?_, fun j h1 h2 h3 => ?_, .inr (.inl rfl)⟩ ⟨?_, ?_, fun h1 _ => absurd rfl h1, .inl ⟨rfl, rfl, rfl⟩⟩
    · exact hoA
    · exact hgA
    · exact hgA
    · exact hoA
theorem systems_no (hM : MachP H mb po br pv S rest) (h1 : ¬(S.beg = 0 ∧ c = 240)) (h2 : ¬(S.beg = 240 ∧ c = 247)) (h : ∀ H', H.le H' → K (.panicked [wrongP]) H') :
    callS P (.func (.func 84) #[.pointer (some ⟨mb, 0, none⟩)] #[]) [.int .u8 c] H K := by
  obtain ⟨g, hlt, _, _⟩ := hM
  have e0 : c = 240 → mst S ≠ 0 := fun hc => by unfold mst; rw [if_neg (fun hb => h1 ⟨hb, hc⟩)]; split <;> omega
  have e2 : c = 247 → mst S ≠ 2 := fun hc => by
    unfold mst
    split
    · omega
    · rw [if_neg (fun hb => h2 ⟨hb, hc⟩)]; omega
  by_cases hc : c = 240
  · have e0 := e0 hc
    subst hc
    refine callS_walk tt_ok Try.func84 rfl (by kernel_rfl) ?_
    conv => whnf
    repeat' ((conv => whnf); first | ((first | (apply vB; (case h => with_reducible assumption)) | (apply vA; (case h => with_reducible assumption)) | (apply vC; (case h => with_reducible assumption))); (case hk => exact kpA); (case he => omega)) | ((first | (apply vI; (case h => with_reducible assumption)) | (apply vG; (case h => with_reducible assumption)) | (apply vK; (case h => with_reducible assumption))); (case hk => exact kpA); (case he => omega); (case hp => omega); (case' g => intro hr_ hc_)) | ((first | (apply vJ; (case h => with_reducible assumption)) | (apply vH; (case h => with_reducible assumption)) | (apply vL; (case h => with_reducible assumption))); (case hk => exact kpA); (case he => omega); (case' g => intro hr_ hc_)) | (apply drawS_auto mixed tt_ok; (· kernel_rfl)) | apply zZ | apply yA | apply yB | ((first | apply zA | apply zC | apply zE | apply zG); (· with_reducible assumption)) | ((first | apply zB | apply zD | apply zF | apply zH); (· with_reducible assumption)) | apply zM | apply zN | apply zO | apply zP | apply zQ | apply zR | apply zS | apply zT | apply zU | (apply zV; (· omega)) | (apply zW; (· omega)) | (apply zX; (· (first | omega | (dsimp only; omega)))) | (apply zY; (try (apply zY; apply zX; (· omega))); apply zX; (· omega); apply zX; (· (first | omega | (dsimp only; omega)))) | ((first | apply yJ | apply yK | apply yL | apply yM | apply yN | apply yO); (· exact hgA); (· exact hsA)) | (apply yNP; (· exact hgA); (· exact hsA)) | ((first | apply zA | apply zC | apply zE | apply zG); (· omega)) | ((first | apply zB | apply zD | apply zF | apply zH); (· omega)) | ((first | apply zI | apply zK); (· with_reducible assumption)) | ((first | apply zJ | apply zL); (· with_reducible assumption)) | fail)
    conv => whnf
    exact h _ leA
  · by_cases hc2 : c = 247
    · have e2 := e2 hc2
      subst hc2
      refine callS_walk tt_ok Try.func84 rfl (by kernel_rfl) ?_
      conv => whnf
      repeat' ((conv => whnf); first | ((first | (apply vB; (case h => with_reducible assumption)) | (apply vA; (case h => with_reducible assumption)) | (apply vC; (case h => with_reducible assumption))); (case hk => exact kpA); (case he => omega)) | ((first | (apply vI; (case h => with_reducible assumption)) | (apply vG; (case h => with_reducible assumption)) | (apply vK; (case h => with_reducible assumption))); (case hk => exact kpA); (case he => omega); (case hp => omega); (case' g => intro hr_ hc_)) | ((first | (apply vJ; (case h => with_reducible assumption)) | (apply vH; (case h => with_reducible assumption)) | (apply vL; (case h => with_reducible assumption))); (case hk => exact kpA); (case he => omega); (case' g => intro hr_ hc_)) | (apply drawS_auto mixed tt_ok; (· kernel_rfl)) | apply zZ | apply yA | apply yB | ((first | apply zA | apply zC | apply zE | apply zG); (· with_reducible assumption)) | ((first | apply zB | apply zD | apply zF | apply zH); (· with_reducible assumption)) | apply zM | apply zN | apply zO | apply zP | apply zQ | apply zR | apply zS | apply zT | apply zU | (apply zV; (· omega)) | (apply zW; (· omega)) | (apply zX; (· (first | omega | (dsimp only; omega)))) | (apply zY; (try (apply zY; apply zX; (· omega))); apply zX; (· omega); apply zX; (· (first | omega | (dsimp only; omega)))) | ((first | apply yJ | apply yK | apply yL | apply yM | apply yN | apply yO); (· exact hgA); (· exact hsA)) | (apply yNP; (· exact hgA); (· exact hsA)) | ((first | apply zA | apply zC | apply zE | apply zG); (· omega)) | ((first | apply zB | apply zD | apply zF | apply zH); (· omega)) | ((first | apply zI | apply zK); (· with_reducible assumption)) | ((first | apply zJ | apply zL); (· with_reducible assumption)) | fail)
      conv => whnf
      exact h _ leA
    · skip
      refine callS_walk tt_ok Try.func84 rfl (by kernel_rfl) ?_
      conv => whnf
      repeat' ((conv => whnf); first | ((first | (apply vB; (case h => with_reducible assumption)) | (apply vA; (case h => with_reducible assumption)) | (apply vC; (case h => with_reducible assumption))); (case hk => exact kpA); (case he => omega)) | ((first | (apply vI; (case h => with_reducible assumption)) | (apply vG; (case h => with_reducible assumption)) | (apply vK; (case h => with_reducible assumption))); (case hk => exact kpA); (case he => omega); (case hp => omega); (case' g => intro hr_ hc_)) | ((first | (apply vJ; (case h => with_reducible assumption)) | (apply vH; (case h => with_reducible assumption)) | (apply vL; (case h => with_reducible assumption))); (case hk => exact kpA); (case he => omega); (case' g => intro hr_ hc_)) | (apply drawS_auto mixed tt_ok; (· kernel_rfl)) | apply zZ | apply yA | apply yB | ((first | apply zA | apply zC | apply zE | apply zG); (· with_reducible assumption)) | ((first | apply zB | apply zD | apply zF | apply zH); (· with_reducible assumption)) | apply zM | apply zN | apply zO | apply zP | apply zQ | apply zR | apply zS | apply zT | apply zU | (apply zV; (· omega)) | (apply zW; (· omega)) | (apply zX; (· (first | omega | (dsimp only; omega)))) | (apply zY; (try (apply zY; apply zX; (· omega))); apply zX; (· omega); apply zX; (· (first | omega | (dsimp only; omega)))) | ((first | apply yJ | apply yK | apply yL | apply yM | apply yN | apply yO); (· exact hgA); (· exact hsA)) | (apply yNP; (· exact hgA); (· exact hsA)) | ((first | apply zA | apply zC | apply zE | apply zG); (· omega)) | ((first | apply zB | apply zD | apply zF | apply zH); (· omega)) | ((first | apply zI | apply zK); (· with_reducible assumption)) | ((first | apply zJ | apply zL); (· with_reducible assumption)) | fail)
      conv => whnf
      exact h _ leA
end
end Go.Abs
