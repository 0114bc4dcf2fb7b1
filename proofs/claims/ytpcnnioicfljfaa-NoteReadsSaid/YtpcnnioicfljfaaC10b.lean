/- A byte taken by the program's machine. No conditions beyond those stated. -/
import Derived.Test.YtpcnnioicfljfaaB10b
set_option linter.all false
set_option maxHeartbeats 1000000
set_option maxRecDepth 20000
namespace Go.Abs
open Go Go.Proofs

theorem pushD_w (c : Int) (S : MS) : (pushD c S).2.2 = false := by unfold pushD; split <;> rfl
theorem MachP.keep {H H' : AHeap} {mb po : Nat} {br : Bool} {pv : Value} {S : MS} {rest : List Value} (h : MachP H mb po br pv S rest) (hs : H.size ≤ H'.size) (hg : ∀ j, j < H.size → j = mb ∨ j = po → H'.get j = H.get j) : MachP H' mb po br pv S rest :=
  ⟨(hg _ h.lt (.inl rfl)).trans h.g, Nat.lt_of_lt_of_le h.lt hs, h.bare, h.pt.imp id fun ⟨h1, h2, h3, h4⟩ => ⟨h1, (hg _ h3 (.inr rfl)).trans h2, Nat.lt_of_lt_of_le h3 hs, h4⟩⟩
theorem MachP.plt {H : AHeap} {mb po : Nat} {br : Bool} {pv : Value} {S : MS} {rest : List Value} (h : MachP H mb po br pv S rest) : po < H.size := by
  rcases h.pt with ⟨_, _, rfl⟩ | ⟨_, _, h, _⟩
  · exact h.lt
  · exact h
theorem late_c {a b c : Nat} {H : AHeap} {K : AEnd → FrameMode → AHeap → Prop} (h : ∀ H', H.le H' → K (.returned (.tuple #[])) .returning H') :
    defS P 31 [.pointer (some ⟨a, 0, none⟩), .pointer (some ⟨b, 0, none⟩), .pointer (some ⟨c, 0, none⟩)] .returning H K := by
  refine defS_walk tt_ok Try.func31 rfl (by kernel_rfl) ?_
  conv => whnf
  repeat' ((conv => whnf); first | (apply drawS_auto mixed tt_ok; (· kernel_rfl)) | apply zZ | apply yA | apply yB | ((first | apply zA | apply zC | apply zE | apply zG); (· with_reducible assumption)) | ((first | apply zB | apply zD | apply zF | apply zH); (· with_reducible assumption)) | apply zM | apply zN | apply zO | apply zP | apply zQ | apply zR | apply zS | apply zT | apply zU | (apply zV; (· omega)) | (apply zW; (· omega)) | (apply zX; (· (first | omega | (dsimp only; omega)))) | (apply zY; (try (apply zY; apply zX; (· omega))); apply zX; (· omega); apply zX; (· (first | omega | (dsimp only; omega)))) | ((first | apply yJ | apply yK | apply yL | apply yM | apply yN | apply yO); (· exact hgA); (· exact hsA)) | (apply yNP; (· exact hgA); (· exact hsA)) | ((first | apply zA | apply zC | apply zE | apply zG); (· omega)) | ((first | apply zB | apply zD | apply zF | apply zH); (· omega)) | ((first | apply zI | apply zK); (· with_reducible assumption)) | ((first | apply zJ | apply zL); (· with_reducible assumption)) | fail)
  conv => whnf
  exact h _ leA
theorem late_p {a b c : Nat} {vb vc : Bool} {H : AHeap} {K : AEnd → FrameMode → AHeap → Prop} (ha : a < H.size) (hb : b < H.size) (hc : c < H.size) (hab : a ≠ b) (hac : a ≠ c) (hbc : b ≠ c) (ga : H.get a = some (.cells [iv 0, iv 0, iv 0, iv 0, iv 0, .string .empty] true 0)) (gb : H.get b = some (.cells [.bool vb] true 0)) (gc : H.get c = some (.cells [.bool vc] true 0))
    (h : ∀ H', H.size ≤ H'.size → (∀ j, j < H.size → j ≠ a → j ≠ b → j ≠ c → H'.get j = H.get j) → H'.get a = some (.cells [iv 0, iv 0, iv 0, iv 0, iv 0, .string .empty] true 0) → H'.get b = some (.cells [.bool false] true 0) → H'.get c = some (.cells [.bool false] true 0) → K (.returned (.tuple #[])) (.panicking [{ v := .iface 70 (.agg #[]), recovered := true }]) H') :
    defS P 31 [.pointer (some ⟨a, 0, none⟩), .pointer (some ⟨b, 0, none⟩), .pointer (some ⟨c, 0, none⟩)] (.panicking [wrongP]) H K := by
  refine defS_walk tt_ok Try.func31 rfl (by kernel_rfl) ?_
  conv => whnf
  repeat' ((conv => whnf); first | (apply drawS_auto mixed tt_ok; (· kernel_rfl)) | apply zZ | apply yA | apply yB | ((first | apply zA | apply zC | apply zE | apply zG); (· with_reducible assumption)) | ((first | apply zB | apply zD | apply zF | apply zH); (· with_reducible assumption)) | apply zM | apply zN | apply zO | apply zP | apply zQ | apply zR | apply zS | apply zT | apply zU | (apply zV; (· omega)) | (apply zW; (· omega)) | (apply zX; (· (first | omega | (dsimp only; omega)))) | (apply zY; (try (apply zY; apply zX; (· omega))); apply zX; (· omega); apply zX; (· (first | omega | (dsimp only; omega)))) | ((first | apply yJ | apply yK | apply yL | apply yM | apply yN | apply yO); (· exact hgA); (· exact hsA)) | (apply yNP; (· exact hgA); (· exact hsA)) | ((first | apply zA | apply zC | apply zE | apply zG); (· omega)) | ((first | apply zB | apply zD | apply zF | apply zH); (· omega)) | ((first | apply zI | apply zK); (· with_reducible assumption)) | ((first | apply zJ | apply zL); (· with_reducible assumption)) | fail)
  conv => whnf
  refine h _ ?_ (fun j h1 h2 h3 h4 => ?_) ?_ ?_ ?_
  · exact hoA
  · exact hgA
  · exact hgA
  · exact hgA
  · exact hgA
section
variable {mb po : Nat} {br : Bool} {pv : Value} {S S' : MS} {rest : List Value} {c : Int} {e : Ev} {is : Bool} {H : AHeap} {K : CK}
theorem take_data (hlt : mb < H.size) (hpo : po < H.size) (hc : 0 ≤ c ∧ c < 128) (hm : ∀ H1 (K1 : CK), H.le H1 → (∀ H2 po' br' pv', MFr H1 H2 mb po po' → MachP H2 mb po' br' pv' S' rest → K1 (.returned (.tuple #[.agg ⟨evL 0 e⟩, .bool is])) H2) → callS P (.func (.func 32) #[.pointer (some ⟨mb, 0, none⟩)] #[]) [.int .u8 c] H1 K1)
    (h : ∀ H' po' br' pv', MFr H H' mb po po' → MachP H' mb po' br' pv' S' rest → K (.returned (.tuple #[.agg ⟨evL 0 e⟩, .bool is, .bool true])) H') : callS P (fnV 20) [.pointer (some ⟨mb, 0, none⟩), .int .u8 c] H K := by
  refine callS_walk tt_ok Try.func20 rfl (by kernel_rfl) ?_
  conv => whnf
  repeat' ((conv => whnf); first | (refine hm _ _ ?_ (fun H2 p2 b2 v2 hf2 hM2 => ?_); (· exact leA); (have hz2 : H.size + 4 ≤ H2.size := hf2.size); (have k4 : H2.get H.size = some (.cells [iv 0, iv 0, iv 0, iv 0, iv 0, .string .empty] true 0) := (hf2.get H.size hoA hoA hoA).trans hgA); (have k5 : H2.get (H.size + 1) = some (.cells [.bool false] true 0) := (hf2.get (H.size + 1) hoA hoA hoA).trans hgA); (have k6 : H2.get (H.size + 2) = some (.cells [.bool false] true 0) := (hf2.get (H.size + 2) hoA hoA hoA).trans hgA)) | refine late_c (fun H3 hle3 => ?_) | ((first | (apply vB; (case h => with_reducible assumption)) | (apply vA; (case h => with_reducible assumption)) | (apply vC; (case h => with_reducible assumption)) | (apply vD; (case h => with_reducible assumption))); (case hk => exact kpA); (case he => omega)) | ((first | (apply vI; (case h => with_reducible assumption)) | (apply vG; (case h => with_reducible assumption)) | (apply vK; (case h => with_reducible assumption))); (case hk => exact kpA); (case he => omega); (case hp => omega); (case' g => intro hr_ hc_)) | ((first | (apply vJ; (case h => with_reducible assumption)) | (apply vH; (case h => with_reducible assumption)) | (apply vL; (case h => with_reducible assumption))); (case hk => exact kpA); (case he => omega); (case' g => intro hr_ hc_)) | (apply drawS_auto mixed tt_ok; (· kernel_rfl)) | apply zZ | apply yA | apply yB | ((first | apply zA | apply zC | apply zE | apply zG); (· with_reducible assumption)) | ((first | apply zB | apply zD | apply zF | apply zH); (· with_reducible assumption)) | apply zM | apply zN | apply zO | apply zP | apply zQ | apply zR | apply zS | apply zT | apply zU | (apply zV; (· omega)) | (apply zW; (· omega)) | (apply zX; (· (first | omega | (dsimp only; omega)))) | (apply zY; (try (apply zY; apply zX; (· omega))); apply zX; (· omega); apply zX; (· (first | omega | (dsimp only; omega)))) | ((first | apply yJ | apply yK | apply yL | apply yM | apply yN | apply yO); (· exact hgA); (· exact hsA)) | (apply yNP; (· exact hgA); (· exact hsA)) | ((first | apply zA | apply zC | apply zE | apply zG); (· omega)) | ((first | apply zB | apply zD | apply zF | apply zH); (· omega)) | ((first | apply zI | apply zK); (· with_reducible assumption)) | ((first | apply zJ | apply zL); (· with_reducible assumption)) | fail)
  conv => whnf
  have hz3 : H2.size ≤ H3.size := hle3.size
  have hfin : ∀ j, j < H2.size → j ≠ H.size → j ≠ H.size + 1 → j ≠ H.size + 2 → H3.get j = H2.get j := fun j h0 h1 h2 h3 => (hle3.get j hoA).trans hgA
  have hp2 : p2 = po ∨ p2 = mb ∨ H.size + 4 ≤ p2 := hf2.po
  refine h _ p2 b2 v2 ⟨by omega, fun j h1 h2 h3 => ?_, by omega⟩ (hM2.keep (by omega) (fun j h1 h2 => hfin j h1 (by omega) (by omega) (by omega)))
  refine (hfin j (by omega) (by omega) (by omega) (by omega)).trans ((hf2.get j hoA h2 h3).trans hgA)
theorem take_data_no (hlt : mb < H.size) (hc : 0 ≤ c ∧ c < 128) (hM : MachP H mb po br pv S rest) (hm : ∀ H1 (K1 : CK), H.le H1 → (∀ H2, H1.le H2 → K1 (.panicked [wrongP]) H2) → callS P (.func (.func 32) #[.pointer (some ⟨mb, 0, none⟩)] #[]) [.int .u8 c] H1 K1)
    (h : ∀ H' po' br' pv', MFr H H' mb po po' → MachP H' mb po' br' pv' S rest → K (.returned (.tuple #[.agg ⟨evL 0 ev0⟩, .bool false, .bool false])) H') : callS P (fnV 20) [.pointer (some ⟨mb, 0, none⟩), .int .u8 c] H K := by
  have hpo := hM.plt
  refine callS_walk tt_ok Try.func20 rfl (by kernel_rfl) ?_
  conv => whnf
  repeat' ((conv => whnf); first | (refine hm _ _ ?_ (fun H2 hle2 => ?_); (· exact leA); (have hz2 : H.size + 4 ≤ H2.size := hle2.size); (have k4 : H2.get H.size = some (.cells [iv 0, iv 0, iv 0, iv 0, iv 0, .string .empty] true 0) := (hle2.get H.size hoA).trans hgA); (have k5 : H2.get (H.size + 1) = some (.cells [.bool false] true 0) := (hle2.get (H.size + 1) hoA).trans hgA); (have k6 : H2.get (H.size + 2) = some (.cells [.bool false] true 0) := (hle2.get (H.size + 2) hoA).trans hgA)) | (refine late_p (vb := false) (vc := false) ?_ ?_ ?_ ?_ ?_ ?_ k4 k5 k6 (fun H3 hz3 hs3 q4 q5 q6 => ?_); (· exact hoA); (· exact hoA); (· exact hoA); (· exact hoA); (· exact hoA); (· exact hoA)) | ((first | (apply vB; (case h => with_reducible assumption)) | (apply vA; (case h => with_reducible assumption)) | (apply vC; (case h => with_reducible assumption)) | (apply vD; (case h => with_reducible assumption))); (case hk => exact kpA); (case he => omega)) | ((first | (apply vI; (case h => with_reducible assumption)) | (apply vG; (case h => with_reducible assumption)) | (apply vK; (case h => with_reducible assumption))); (case hk => exact kpA); (case he => omega); (case hp => omega); (case' g => intro hr_ hc_)) | ((first | (apply vJ; (case h => with_reducible assumption)) | (apply vH; (case h => with_reducible assumption)) | (apply vL; (case h => with_reducible assumption))); (case hk => exact kpA); (case he => omega); (case' g => intro hr_ hc_)) | (apply drawS_auto mixed tt_ok; (· kernel_rfl)) | apply zZ | apply yA | apply yB | ((first | apply zA | apply zC | apply zE | apply zG); (· with_reducible assumption)) | ((first | apply zB | apply zD | apply zF | apply zH); (· with_reducible assumption)) | apply zM | apply zN | apply zO | apply zP | apply zQ | apply zR | apply zS | apply zT | apply zU | (apply zV; (· omega)) | (apply zW; (· omega)) | (apply zX; (· (first | omega | (dsimp only; omega)))) | (apply zY; (try (apply zY; apply zX; (· omega))); apply zX; (· omega); apply zX; (· (first | omega | (dsimp only; omega)))) | ((first | apply yJ | apply yK | apply yL | apply yM | apply yN | apply yO); (· exact hgA); (· exact hsA)) | (apply yNP; (· exact hgA); (· exact hsA)) | ((first | apply zA | apply zC | apply zE | apply zG); (· omega)) | ((first | apply zB | apply zD | apply zF | apply zH); (· omega)) | ((first | apply zI | apply zK); (· with_reducible assumption)) | ((first | apply zJ | apply zL); (· with_reducible assumption)) | fail)
  conv => whnf
  have hfin : ∀ j, j < H.size → H3.get j = H.get j := fun j h0 => (hs3 j hoA hoA hoA hoA).trans ((hle2.get j hoA).trans hgA)
  exact h _ po br pv ⟨by omega, fun j h1 _ _ => hfin j h1, .inl rfl⟩ (hM.keep (by omega) (fun j h1 _ => hfin j h1))
theorem take_statused (hlt : mb < H.size) (hpo : po < H.size) (hc : 128 ≤ c ∧ c < 240) (hm : ∀ H1 (K1 : CK), H.le H1 → (∀ H2 po' br' pv', MFr H1 H2 mb po po' → MachP H2 mb po' br' pv' S' rest → K1 (.returned (.tuple #[.agg ⟨evL 0 e⟩, .bool is])) H2) → callS P (.func (.func 33) #[.pointer (some ⟨mb, 0, none⟩)] #[]) [.int .u8 c] H1 K1)
    (h : ∀ H' po' br' pv', MFr H H' mb po po' → MachP H' mb po' br' pv' S' rest → K (.returned (.tuple #[.agg ⟨evL 0 e⟩, .bool is, .bool true])) H') : callS P (fnV 20) [.pointer (some ⟨mb, 0, none⟩), .int .u8 c] H K := by
  refine callS_walk tt_ok Try.func20 rfl (by kernel_rfl) ?_
  conv => whnf
  repeat' ((conv => whnf); first | (refine hm _ _ ?_ (fun H2 p2 b2 v2 hf2 hM2 => ?_); (· exact leA); (have hz2 : H.size + 4 ≤ H2.size := hf2.size); (have k4 : H2.get H.size = some (.cells [iv 0, iv 0, iv 0, iv 0, iv 0, .string .empty] true 0) := (hf2.get H.size hoA hoA hoA).trans hgA); (have k5 : H2.get (H.size + 1) = some (.cells [.bool false] true 0) := (hf2.get (H.size + 1) hoA hoA hoA).trans hgA); (have k6 : H2.get (H.size + 2) = some (.cells [.bool false] true 0) := (hf2.get (H.size + 2) hoA hoA hoA).trans hgA)) | refine late_c (fun H3 hle3 => ?_) | ((first | (apply vB; (case h => with_reducible assumption)) | (apply vA; (case h => with_reducible assumption)) | (apply vC; (case h => with_reducible assumption)) | (apply vD; (case h => with_reducible assumption))); (case hk => exact kpA); (case he => omega)) | ((first | (apply vI; (case h => with_reducible assumption)) | (apply vG; (case h => with_reducible assumption)) | (apply vK; (case h => with_reducible assumption))); (case hk => exact kpA); (case he => omega); (case hp => omega); (case' g => intro hr_ hc_)) | ((first | (apply vJ; (case h => with_reducible assumption)) | (apply vH; (case h => with_reducible assumption)) | (apply vL; (case h => with_reducible assumption))); (case hk => exact kpA); (case he => omega); (case' g => intro hr_ hc_)) | (apply drawS_auto mixed tt_ok; (· kernel_rfl)) | apply zZ | apply yA | apply yB | ((first | apply zA | apply zC | apply zE | apply zG); (· with_reducible assumption)) | ((first | apply zB | apply zD | apply zF | apply zH); (· with_reducible assumption)) | apply zM | apply zN | apply zO | apply zP | apply zQ | apply zR | apply zS | apply zT | apply zU | (apply zV; (· omega)) | (apply zW; (· omega)) | (apply zX; (· (first | omega | (dsimp only; omega)))) | (apply zY; (try (apply zY; apply zX; (· omega))); apply zX; (· omega); apply zX; (· (first | omega | (dsimp only; omega)))) | ((first | apply yJ | apply yK | apply yL | apply yM | apply yN | apply yO); (· exact hgA); (· exact hsA)) | (apply yNP; (· exact hgA); (· exact hsA)) | ((first | apply zA | apply zC | apply zE | apply zG); (· omega)) | ((first | apply zB | apply zD | apply zF | apply zH); (· omega)) | ((first | apply zI | apply zK); (· with_reducible assumption)) | ((first | apply zJ | apply zL); (· with_reducible assumption)) | fail)
  conv => whnf
  have hz3 : H2.size ≤ H3.size := hle3.size
  have hfin : ∀ j, j < H2.size → j ≠ H.size → j ≠ H.size + 1 → j ≠ H.size + 2 → H3.get j = H2.get j := fun j h0 h1 h2 h3 => (hle3.get j hoA).trans hgA
  have hp2 : p2 = po ∨ p2 = mb ∨ H.size + 4 ≤ p2 := hf2.po
  refine h _ p2 b2 v2 ⟨by omega, fun j h1 h2 h3 => ?_, by omega⟩ (hM2.keep (by omega) (fun j h1 h2 => hfin j h1 (by omega) (by omega) (by omega)))
  refine (hfin j (by omega) (by omega) (by omega) (by omega)).trans ((hf2.get j hoA h2 h3).trans hgA)
theorem take_statused_no (hlt : mb < H.size) (hc : 128 ≤ c ∧ c < 240) (hM : MachP H mb po br pv S rest) (hm : ∀ H1 (K1 : CK), H.le H1 → (∀ H2, H1.le H2 → K1 (.panicked [wrongP]) H2) → callS P (.func (.func 33) #[.pointer (some ⟨mb, 0, none⟩)] #[]) [.int .u8 c] H1 K1)
    (h : ∀ H' po' br' pv', MFr H H' mb po po' → MachP H' mb po' br' pv' S rest → K (.returned (.tuple #[.agg ⟨evL 0 ev0⟩, .bool false, .bool false])) H') : callS P (fnV 20) [.pointer (some ⟨mb, 0, none⟩), .int .u8 c] H K := by
  have hpo := hM.plt
  refine callS_walk tt_ok Try.func20 rfl (by kernel_rfl) ?_
  conv => whnf
  repeat' ((conv => whnf); first | (refine hm _ _ ?_ (fun H2 hle2 => ?_); (· exact leA); (have hz2 : H.size + 4 ≤ H2.size := hle2.size); (have k4 : H2.get H.size = some (.cells [iv 0, iv 0, iv 0, iv 0, iv 0, .string .empty] true 0) := (hle2.get H.size hoA).trans hgA); (have k5 : H2.get (H.size + 1) = some (.cells [.bool false] true 0) := (hle2.get (H.size + 1) hoA).trans hgA); (have k6 : H2.get (H.size + 2) = some (.cells [.bool false] true 0) := (hle2.get (H.size + 2) hoA).trans hgA)) | (refine late_p (vb := false) (vc := false) ?_ ?_ ?_ ?_ ?_ ?_ k4 k5 k6 (fun H3 hz3 hs3 q4 q5 q6 => ?_); (· exact hoA); (· exact hoA); (· exact hoA); (· exact hoA); (· exact hoA); (· exact hoA)) | ((first | (apply vB; (case h => with_reducible assumption)) | (apply vA; (case h => with_reducible assumption)) | (apply vC; (case h => with_reducible assumption)) | (apply vD; (case h => with_reducible assumption))); (case hk => exact kpA); (case he => omega)) | ((first | (apply vI; (case h => with_reducible assumption)) | (apply vG; (case h => with_reducible assumption)) | (apply vK; (case h => with_reducible assumption))); (case hk => exact kpA); (case he => omega); (case hp => omega); (case' g => intro hr_ hc_)) | ((first | (apply vJ; (case h => with_reducible assumption)) | (apply vH; (case h => with_reducible assumption)) | (apply vL; (case h => with_reducible assumption))); (case hk => exact kpA); (case he => omega); (case' g => intro hr_ hc_)) | (apply drawS_auto mixed tt_ok; (· kernel_rfl)) | apply zZ | apply yA | apply yB | ((first | apply zA | apply zC | apply zE | apply zG); (· with_reducible assumption)) | ((first | apply zB | apply zD | apply zF | apply zH); (· with_reducible assumption)) | apply zM | apply zN | apply zO | apply zP | apply zQ | apply zR | apply zS | apply zT | apply zU | (apply zV; (· omega)) | (apply zW; (· omega)) | (apply zX; (· (first | omega | (dsimp only; omega)))) | (apply zY; (try (apply zY; apply zX; (· omega))); apply zX; (· omega); apply zX; (· (first | omega | (dsimp only; omega)))) | ((first | apply yJ | apply yK | apply yL | apply yM | apply yN | apply yO); (· exact hgA); (· exact hsA)) | (apply yNP; (· exact hgA); (· exact hsA)) | ((first | apply zA | apply zC | apply zE | apply zG); (· omega)) | ((first | apply zB | apply zD | apply zF | apply zH); (· omega)) | ((first | apply zI | apply zK); (· with_reducible assumption)) | ((first | apply zJ | apply zL); (· with_reducible assumption)) | fail)
  conv => whnf
  have hfin : ∀ j, j < H.size → H3.get j = H.get j := fun j h0 => (hs3 j hoA hoA hoA hoA).trans ((hle2.get j hoA).trans hgA)
  exact h _ po br pv ⟨by omega, fun j h1 _ _ => hfin j h1, .inl rfl⟩ (hM.keep (by omega) (fun j h1 _ => hfin j h1))
theorem take_systems (hlt : mb < H.size) (hpo : po < H.size) (hc : 240 ≤ c ∧ c < 248) (hm : ∀ H1 (K1 : CK), H.le H1 → (∀ H2 po' br' pv', MFr H1 H2 mb po po' → MachP H2 mb po' br' pv' S' rest → K1 (.returned (.tuple #[.agg ⟨evL 0 e⟩, .bool is])) H2) → callS P (.func (.func 34) #[.pointer (some ⟨mb, 0, none⟩)] #[]) [.int .u8 c] H1 K1)
    (h : ∀ H' po' br' pv', MFr H H' mb po po' → MachP H' mb po' br' pv' S' rest → K (.returned (.tuple #[.agg ⟨evL 0 e⟩, .bool is, .bool true])) H') : callS P (fnV 20) [.pointer (some ⟨mb, 0, none⟩), .int .u8 c] H K := by
  refine callS_walk tt_ok Try.func20 rfl (by kernel_rfl) ?_
  conv => whnf
  repeat' ((conv => whnf); first | (refine hm _ _ ?_ (fun H2 p2 b2 v2 hf2 hM2 => ?_); (· exact leA); (have hz2 : H.size + 4 ≤ H2.size := hf2.size); (have k4 : H2.get H.size = some (.cells [iv 0, iv 0, iv 0, iv 0, iv 0, .string .empty] true 0) := (hf2.get H.size hoA hoA hoA).trans hgA); (have k5 : H2.get (H.size + 1) = some (.cells [.bool false] true 0) := (hf2.get (H.size + 1) hoA hoA hoA).trans hgA); (have k6 : H2.get (H.size + 2) = some (.cells [.bool false] true 0) := (hf2.get (H.size + 2) hoA hoA hoA).trans hgA)) | refine late_c (fun H3 hle3 => ?_) | ((first | (apply vB; (case h => with_reducible assumption)) | (apply vA; (case h => with_reducible assumption)) | (apply vC; (case h => with_reducible assumption)) | (apply vD; (case h => with_reducible assumption))); (case hk => exact kpA); (case he => omega)) | ((first | (apply vI; (case h => with_reducible assumption)) | (apply vG; (case h => with_reducible assumption)) | (apply vK; (case h => with_reducible assumption))); (case hk => exact kpA); (case he => omega); (case hp => omega); (case' g => intro hr_ hc_)) | ((first | (apply vJ; (case h => with_reducible assumption)) | (apply vH; (case h => with_reducible assumption)) | (apply vL; (case h => with_reducible assumption))); (case hk => exact kpA); (case he => omega); (case' g => intro hr_ hc_)) | (apply drawS_auto mixed tt_ok; (· kernel_rfl)) | apply zZ | apply yA | apply yB | ((first | apply zA | apply zC | apply zE | apply zG); (· with_reducible assumption)) | ((first | apply zB | apply zD | apply zF | apply zH); (· with_reducible assumption)) | apply zM | apply zN | apply zO | apply zP | apply zQ | apply zR | apply zS | apply zT | apply zU | (apply zV; (· omega)) | (apply zW; (· omega)) | (apply zX; (· (first | omega | (dsimp only; omega)))) | (apply zY; (try (apply zY; apply zX; (· omega))); apply zX; (· omega); apply zX; (· (first | omega | (dsimp only; omega)))) | ((first | apply yJ | apply yK | apply yL | apply yM | apply yN | apply yO); (· exact hgA); (· exact hsA)) | (apply yNP; (· exact hgA); (· exact hsA)) | ((first | apply zA | apply zC | apply zE | apply zG); (· omega)) | ((first | apply zB | apply zD | apply zF | apply zH); (· omega)) | ((first | apply zI | apply zK); (· with_reducible assumption)) | ((first | apply zJ | apply zL); (· with_reducible assumption)) | fail)
  conv => whnf
  have hz3 : H2.size ≤ H3.size := hle3.size
  have hfin : ∀ j, j < H2.size → j ≠ H.size → j ≠ H.size + 1 → j ≠ H.size + 2 → H3.get j = H2.get j := fun j h0 h1 h2 h3 => (hle3.get j hoA).trans hgA
  have hp2 : p2 = po ∨ p2 = mb ∨ H.size + 4 ≤ p2 := hf2.po
  refine h _ p2 b2 v2 ⟨by omega, fun j h1 h2 h3 => ?_, by omega⟩ (hM2.keep (by omega) (fun j h1 h2 => hfin j h1 (by omega) (by omega) (by omega)))
  refine (hfin j (by omega) (by omega) (by omega) (by omega)).trans ((hf2.get j hoA h2 h3).trans hgA)
theorem take_systems_no (hlt : mb < H.size) (hc : 240 ≤ c ∧ c < 248) (hM : MachP H mb po br pv S rest) (hm : ∀ H1 (K1 : CK), H.le H1 → (∀ H2, H1.le H2 → K1 (.panicked [wrongP]) H2) → callS P (.func (.func 34) #[.pointer (some ⟨mb, 0, none⟩)] #[]) [.int .u8 c] H1 K1)
    (h : ∀ H' po' br' pv', MFr H H' mb po po' → MachP H' mb po' br' pv' S rest → K (.returned (.tuple #[.agg ⟨evL 0 ev0⟩, .bool false, .bool false])) H') : callS P (fnV 20) [.pointer (some ⟨mb, 0, none⟩), .int .u8 c] H K := by
  have hpo := hM.plt
  refine callS_walk tt_ok Try.func20 rfl (by kernel_rfl) ?_
  conv => whnf
  repeat' ((conv => whnf); first | (refine hm _ _ ?_ (fun H2 hle2 => ?_); (· exact leA); (have hz2 : H.size + 4 ≤ H2.size := hle2.size); (have k4 : H2.get H.size = some (.cells [iv 0, iv 0, iv 0, iv 0, iv 0, .string .empty] true 0) := (hle2.get H.size hoA).trans hgA); (have k5 : H2.get (H.size + 1) = some (.cells [.bool false] true 0) := (hle2.get (H.size + 1) hoA).trans hgA); (have k6 : H2.get (H.size + 2) = some (.cells [.bool false] true 0) := (hle2.get (H.size + 2) hoA).trans hgA)) | (refine late_p (vb := false) (vc := false) ?_ ?_ ?_ ?_ ?_ ?_ k4 k5 k6 (fun H3 hz3 hs3 q4 q5 q6 => ?_); (· exact hoA); (· exact hoA); (· exact hoA); (· exact hoA); (· exact hoA); (· exact hoA)) | ((first | (apply vB; (case h => with_reducible assumption)) | (apply vA; (case h => with_reducible assumption)) | (apply vC; (case h => with_reducible assumption)) | (apply vD; (case h => with_reducible assumption))); (case hk => exact kpA); (case he => omega)) | ((first | (apply vI; (case h => with_reducible assumption)) | (apply vG; (case h => with_reducible assumption)) | (apply vK; (case h => with_reducible assumption))); (case hk => exact kpA); (case he => omega); (case hp => omega); (case' g => intro hr_ hc_)) | ((first | (apply vJ; (case h => with_reducible assumption)) | (apply vH; (case h => with_reducible assumption)) | (apply vL; (case h => with_reducible assumption))); (case hk => exact kpA); (case he => omega); (case' g => intro hr_ hc_)) | (apply drawS_auto mixed tt_ok; (· kernel_rfl)) | apply zZ | apply yA | apply yB | ((first | apply zA | apply zC | apply zE | apply zG); (· with_reducible assumption)) | ((first | apply zB | apply zD | apply zF | apply zH); (· with_reducible assumption)) | apply zM | apply zN | apply zO | apply zP | apply zQ | apply zR | apply zS | apply zT | apply zU | (apply zV; (· omega)) | (apply zW; (· omega)) | (apply zX; (· (first | omega | (dsimp only; omega)))) | (apply zY; (try (apply zY; apply zX; (· omega))); apply zX; (· omega); apply zX; (· (first | omega | (dsimp only; omega)))) | ((first | apply yJ | apply yK | apply yL | apply yM | apply yN | apply yO); (· exact hgA); (· exact hsA)) | (apply yNP; (· exact hgA); (· exact hsA)) | ((first | apply zA | apply zC | apply zE | apply zG); (· omega)) | ((first | apply zB | apply zD | apply zF | apply zH); (· omega)) | ((first | apply zI | apply zK); (· with_reducible assumption)) | ((first | apply zJ | apply zL); (· with_reducible assumption)) | fail)
  conv => whnf
  have hfin : ∀ j, j < H.size → H3.get j = H.get j := fun j h0 => (hs3 j hoA hoA hoA hoA).trans ((hle2.get j hoA).trans hgA)
  exact h _ po br pv ⟨by omega, fun j h1 _ _ => hfin j h1, .inl rfl⟩ (hM.keep (by omega) (fun j h1 _ => hfin j h1))
theorem take_clocks (hlt : mb < H.size) (hpo : po < H.size) (hc : 248 ≤ c ∧ c < 256) (hm : ∀ H1 (K1 : CK), H.le H1 → (∀ H2 po' br' pv', MFr H1 H2 mb po po' → MachP H2 mb po' br' pv' S' rest → K1 (.returned (.tuple #[.agg ⟨evL 0 e⟩, .bool is])) H2) → callS P (.func (.func 35) #[.pointer (some ⟨mb, 0, none⟩)] #[]) [.int .u8 c] H1 K1)
    (h : ∀ H' po' br' pv', MFr H H' mb po po' → MachP H' mb po' br' pv' S' rest → K (.returned (.tuple #[.agg ⟨evL 0 e⟩, .bool is, .bool true])) H') : callS P (fnV 20) [.pointer (some ⟨mb, 0, none⟩), .int .u8 c] H K := by
  refine callS_walk tt_ok Try.func20 rfl (by kernel_rfl) ?_
  conv => whnf
  repeat' ((conv => whnf); first | (refine hm _ _ ?_ (fun H2 p2 b2 v2 hf2 hM2 => ?_); (· exact leA); (have hz2 : H.size + 4 ≤ H2.size := hf2.size); (have k4 : H2.get H.size = some (.cells [iv 0, iv 0, iv 0, iv 0, iv 0, .string .empty] true 0) := (hf2.get H.size hoA hoA hoA).trans hgA); (have k5 : H2.get (H.size + 1) = some (.cells [.bool false] true 0) := (hf2.get (H.size + 1) hoA hoA hoA).trans hgA); (have k6 : H2.get (H.size + 2) = some (.cells [.bool false] true 0) := (hf2.get (H.size + 2) hoA hoA hoA).trans hgA)) | refine late_c (fun H3 hle3 => ?_) | ((first | (apply vB; (case h => with_reducible assumption)) | (apply vA; (case h => with_reducible assumption)) | (apply vC; (case h => with_reducible assumption)) | (apply vD; (case h => with_reducible assumption))); (case hk => exact kpA); (case he => omega)) | ((first | (apply vI; (case h => with_reducible assumption)) | (apply vG; (case h => with_reducible assumption)) | (apply vK; (case h => with_reducible assumption))); (case hk => exact kpA); (case he => omega); (case hp => omega); (case' g => intro hr_ hc_)) | ((first | (apply vJ; (case h => with_reducible assumption)) | (apply vH; (case h => with_reducible assumption)) | (apply vL; (case h => with_reducible assumption))); (case hk => exact kpA); (case he => omega); (case' g => intro hr_ hc_)) | (apply drawS_auto mixed tt_ok; (· kernel_rfl)) | apply zZ | apply yA | apply yB | ((first | apply zA | apply zC | apply zE | apply zG); (· with_reducible assumption)) | ((first | apply zB | apply zD | apply zF | apply zH); (· with_reducible assumption)) | apply zM | apply zN | apply zO | apply zP | apply zQ | apply zR | apply zS | apply zT | apply zU | (apply zV; (· omega)) | (apply zW; (· omega)) | (apply zX; (· (first | omega | (dsimp only; omega)))) | (apply zY; (try (apply zY; apply zX; (· omega))); apply zX; (· omega); apply zX; (· (first | omega | (dsimp only; omega)))) | ((first | apply yJ | apply yK | apply yL | apply yM | apply yN | apply yO); (· exact hgA); (· exact hsA)) | (apply yNP; (· exact hgA); (· exact hsA)) | ((first | apply zA | apply zC | apply zE | apply zG); (· omega)) | ((first | apply zB | apply zD | apply zF | apply zH); (· omega)) | ((first | apply zI | apply zK); (· with_reducible assumption)) | ((first | apply zJ | apply zL); (· with_reducible assumption)) | fail)
  conv => whnf
  have hz3 : H2.size ≤ H3.size := hle3.size
  have hfin : ∀ j, j < H2.size → j ≠ H.size → j ≠ H.size + 1 → j ≠ H.size + 2 → H3.get j = H2.get j := fun j h0 h1 h2 h3 => (hle3.get j hoA).trans hgA
  have hp2 : p2 = po ∨ p2 = mb ∨ H.size + 4 ≤ p2 := hf2.po
  refine h _ p2 b2 v2 ⟨by omega, fun j h1 h2 h3 => ?_, by omega⟩ (hM2.keep (by omega) (fun j h1 h2 => hfin j h1 (by omega) (by omega) (by omega)))
  refine (hfin j (by omega) (by omega) (by omega) (by omega)).trans ((hf2.get j hoA h2 h3).trans hgA)
theorem take_c (hM : MachP H mb po br pv S rest) (hok : OkS S) (hc : 0 ≤ c ∧ c < 256) (h : ∀ H' po' br' pv', MFr H H' mb po po' → MachP H' mb po' br' pv' (stepS c S).1 rest →
    K (.returned (.tuple #[.agg ⟨evL 0 (evO (stepS c S).2.1)⟩, .bool (stepS c S).2.1.isSome, .bool (!(stepS c S).2.2)])) H') : callS P (fnV 20) [.pointer (some ⟨mb, 0, none⟩), .int .u8 c] H K := by
  have hlt := hM.lt
  have hpo := hM.plt
  have hst := hok.st
  have hrn := hok.run
  by_cases h8 : 248 ≤ c
  · have e : stepS c S = (S, some ⟨9, 0, c - 248, 0, .empty⟩, false) := by unfold stepS; rw [if_pos h8]
    rw [e] at h
    exact take_clocks hlt hpo ⟨h8, hc.2⟩ (fun H1 K1 hle hk => mclocks_c ⟨h8, hc.2⟩ (fun H2 hle2 => hk H2 po br pv (MFr.of hle2) ((hM.le hle).le hle2))) h
  · by_cases h2 : S.beg = 240
    · by_cases h7 : c = 247
      · have e : stepS c S = (⟨S.run, 0, S.sent, []⟩, some ⟨8, 0, 0, 0, bstr S.dat⟩, false) := by unfold stepS; rw [if_neg h8, if_pos h2, if_pos h7]
        rw [e] at h
        exact take_systems hlt hpo (by omega) (fun H1 K1 hle hk => systems_end (hM.le hle) h2 h7 (fun H2 hf hM2 => hk H2 mb br _ hf hM2)) h
      · by_cases h3 : 127 < c ∨ S.dat.length = 200
        · have e : stepS c S = (S, none, true) := by unfold stepS; rw [if_neg h8, if_pos h2, if_neg h7, if_pos h3]
          rw [e] at h
          by_cases h4 : c < 128
          · exact take_data_no hlt ⟨hc.1, h4⟩ hM (fun H1 K1 hle hk => data_full (hM.le hle) h2 (by omega) hk) h
          · by_cases h5 : c < 240
            · exact take_statused_no hlt (by omega) hM (fun H1 K1 hle hk => statused_no (hM.le hle) (by omega) hk) h
            · exact take_systems_no hlt (by omega) hM (fun H1 K1 hle hk => systems_no (hM.le hle) (by omega) (by omega) hk) h
        · have e : stepS c S = (⟨S.run, S.beg, S.sent, S.dat ++ [c]⟩, none, false) := by unfold stepS; rw [if_neg h8, if_pos h2, if_neg h7, if_neg h3]
          rw [e] at h
          exact take_data hlt hpo (by omega) (fun H1 K1 hle hk => data_sys (hM.le hle) h2 (by rcases hst with g | g | g <;> omega) (fun H2 p2 hf hM2 => hk H2 p2 br _ hf hM2)) h
    · by_cases h3 : S.beg = 0 ∧ 128 ≤ c ∧ c ≤ 240
      · have e : stepS c S = (begS c true, none, false) := by unfold stepS; rw [if_neg h8, if_neg h2, if_pos h3]
        rw [e] at h
        by_cases h5 : c = 240
        · exact take_systems hlt hpo (by omega) (fun H1 K1 hle hk => systems_beg (hM.le hle) h3.1 h5 (fun H2 hf hM2 => hk H2 mb br _ hf hM2)) h
        · exact take_statused hlt hpo (by omega) (fun H1 K1 hle hk => statused_c (hM.le hle) h3.1 (by omega) (fun H2 hf hM2 => hk H2 mb false _ hf hM2)) h
      · by_cases h4 : 127 < c ∨ (S.beg = 0 ∧ S.run = 0)
        · have e : stepS c S = (S, none, true) := by unfold stepS; rw [if_neg h8, if_neg h2, if_neg h3, if_pos h4]
          rw [e] at h
          by_cases h5 : c < 128
          · exact take_data_no hlt ⟨hc.1, h5⟩ hM (fun H1 K1 hle hk => data_none (hM.le hle) h2 (by omega) hk) h
          · by_cases h6 : c < 240
            · exact take_statused_no hlt (by omega) hM (fun H1 K1 hle hk => statused_no (hM.le hle) (by omega) hk) h
            · exact take_systems_no hlt (by omega) hM (fun H1 K1 hle hk => systems_no (hM.le hle) (by omega) (by omega) hk) h
        · have e : stepS c S = pushD c (if S.beg = 0 then begS S.run false else S) := by unfold stepS; rw [if_neg h8, if_neg h2, if_neg h3, if_neg h4]
          have e3 : (pushD c (if S.beg = 0 then begS S.run false else S)).2.2 = false := pushD_w _ _
          rw [e, e3] at h
          exact take_data hlt hpo (by omega) (fun H1 K1 hle hk => data_ev (hM.le hle) hok h2 (by rcases hst with g | g | g <;> omega) (by omega) (fun H2 p2 b2 v2 hf hM2 => hk H2 p2 b2 v2 hf hM2)) h
def pend (S : MS) : Int := if S.beg = 0 then 0 else if S.beg = 240 ∨ S.sent = true then 1 + S.dat.length else S.dat.length
theorem pend_bd (hok : OkS S) : 0 ≤ pend S ∧ pend S ≤ 201 := by
  have hst := hok.st
  have hn := need_bd S.beg
  unfold pend
  split
  · omega
  · split <;> rcases hst with g | g | g <;> omega
theorem pending_c (hM : MachP H mb po br pv S rest) (hok : OkS S) (h : K (.returned (iv (pend S))) H) : callS P (fnV 24) [.pointer (some ⟨mb, 0, none⟩)] H K := by
  have hst := hok.st
  have hn := need_bd S.beg
  obtain ⟨g, hlt, hbr, hp⟩ := hM
  have hpl : ∃ a k, pv = .slice a S.dat.length k := by
    rcases hp with ⟨rfl, hd, _⟩ | ⟨rfl, _⟩
    · exact ⟨none, 0, by rw [hd]; rfl⟩
    · exact ⟨_, _, rfl⟩
  obtain ⟨a, k, rfl⟩ := hpl
  by_cases h0 : S.beg = 0
  · have e0 : mst S = 0 := by unfold mst; rw [if_pos h0]
    have ep : pend S = 0 := by unfold pend; rw [if_pos h0]
    rw [e0] at g
    rw [ep] at h
    refine callS_walk tt_ok Try.func24 rfl (by kernel_rfl) ?_
    conv => whnf
    repeat' ((conv => whnf); first | ((first | (apply vB; (case h => with_reducible assumption)) | (apply vA; (case h => with_reducible assumption)) | (apply vC; (case h => with_reducible assumption)) | (apply vD; (case h => with_reducible assumption))); (case hk => exact kpA); (case he => omega)) | ((first | (apply vI; (case h => with_reducible assumption)) | (apply vG; (case h => with_reducible assumption)) | (apply vK; (case h => with_reducible assumption))); (case hk => exact kpA); (case he => omega); (case hp => omega); (case' g => intro hr_ hc_)) | ((first | (apply vJ; (case h => with_reducible assumption)) | (apply vH; (case h => with_reducible assumption)) | (apply vL; (case h => with_reducible assumption))); (case hk => exact kpA); (case he => omega); (case' g => intro hr_ hc_)) | (apply drawS_auto mixed tt_ok; (· kernel_rfl)) | apply zZ | apply yA | apply yB | ((first | apply zA | apply zC | apply zE | apply zG); (· with_reducible assumption)) | ((first | apply zB | apply zD | apply zF | apply zH); (· with_reducible assumption)) | apply zM | apply zN | apply zO | apply zP | apply zQ | apply zR | apply zS | apply zT | apply zU | (apply zV; (· omega)) | (apply zW; (· omega)) | (apply zX; (· (first | omega | (dsimp only; omega)))) | (apply zY; (try (apply zY; apply zX; (· omega))); apply zX; (· omega); apply zX; (· (first | omega | (dsimp only; omega)))) | ((first | apply yJ | apply yK | apply yL | apply yM | apply yN | apply yO); (· exact hgA); (· exact hsA)) | (apply yNP; (· exact hgA); (· exact hsA)) | ((first | apply zA | apply zC | apply zE | apply zG); (· omega)) | ((first | apply zB | apply zD | apply zF | apply zH); (· omega)) | ((first | apply zI | apply zK); (· with_reducible assumption)) | ((first | apply zJ | apply zL); (· with_reducible assumption)) | fail)
    conv => whnf
    exact h
  · by_cases h2 : S.beg = 240
    · have e0 : mst S = 2 := by unfold mst; rw [if_neg h0, if_pos h2]
      have ep : pend S = 1 + S.dat.length := by unfold pend; rw [if_neg h0, if_pos (.inl h2)]
      rw [e0] at g
      rw [ep] at h
      refine callS_walk tt_ok Try.func24 rfl (by kernel_rfl) ?_
      conv => whnf
      repeat' ((conv => whnf); first | ((first | (apply vB; (case h => with_reducible assumption)) | (apply vA; (case h => with_reducible assumption)) | (apply vC; (case h => with_reducible assumption)) | (apply vD; (case h => with_reducible assumption))); (case hk => exact kpA); (case he => omega)) | ((first | (apply vI; (case h => with_reducible assumption)) | (apply vG; (case h => with_reducible assumption)) | (apply vK; (case h => with_reducible assumption))); (case hk => exact kpA); (case he => omega); (case hp => omega); (case' g => intro hr_ hc_)) | ((first | (apply vJ; (case h => with_reducible assumption)) | (apply vH; (case h => with_reducible assumption)) | (apply vL; (case h => with_reducible assumption))); (case hk => exact kpA); (case he => omega); (case' g => intro hr_ hc_)) | (apply drawS_auto mixed tt_ok; (· kernel_rfl)) | apply zZ | apply yA | apply yB | ((first | apply zA | apply zC | apply zE | apply zG); (· with_reducible assumption)) | ((first | apply zB | apply zD | apply zF | apply zH); (· with_reducible assumption)) | apply zM | apply zN | apply zO | apply zP | apply zQ | apply zR | apply zS | apply zT | apply zU | (apply zV; (· omega)) | (apply zW; (· omega)) | (apply zX; (· (first | omega | (dsimp only; omega)))) | (apply zY; (try (apply zY; apply zX; (· omega))); apply zX; (· omega); apply zX; (· (first | omega | (dsimp only; omega)))) | ((first | apply yJ | apply yK | apply yL | apply yM | apply yN | apply yO); (· exact hgA); (· exact hsA)) | (apply yNP; (· exact hgA); (· exact hsA)) | ((first | apply zA | apply zC | apply zE | apply zG); (· omega)) | ((first | apply zB | apply zD | apply zF | apply zH); (· omega)) | ((first | apply zI | apply zK); (· with_reducible assumption)) | ((first | apply zJ | apply zL); (· with_reducible assumption)) | fail)
      conv => whnf
      exact h
    · have e0 : mst S = 1 := by unfold mst; rw [if_neg h0, if_neg h2]
      rw [e0, hbr h0 h2] at g
      cases hs : S.sent with
      | true =>
        have ep : pend S = 1 + S.dat.length := by unfold pend; rw [if_neg h0, if_pos (.inr hs)]
        rw [ep] at h
        rw [hs] at g
        refine callS_walk tt_ok Try.func24 rfl (by kernel_rfl) ?_
        conv => whnf
        repeat' ((conv => whnf); first | ((first | (apply vB; (case h => with_reducible assumption)) | (apply vA; (case h => with_reducible assumption)) | (apply vC; (case h => with_reducible assumption)) | (apply vD; (case h => with_reducible assumption))); (case hk => exact kpA); (case he => omega)) | ((first | (apply vI; (case h => with_reducible assumption)) | (apply vG; (case h => with_reducible assumption)) | (apply vK; (case h => with_reducible assumption))); (case hk => exact kpA); (case he => omega); (case hp => omega); (case' g => intro hr_ hc_)) | ((first | (apply vJ; (case h => with_reducible assumption)) | (apply vH; (case h => with_reducible assumption)) | (apply vL; (case h => with_reducible assumption))); (case hk => exact kpA); (case he => omega); (case' g => intro hr_ hc_)) | (apply drawS_auto mixed tt_ok; (· kernel_rfl)) | apply zZ | apply yA | apply yB | ((first | apply zA | apply zC | apply zE | apply zG); (· with_reducible assumption)) | ((first | apply zB | apply zD | apply zF | apply zH); (· with_reducible assumption)) | apply zM | apply zN | apply zO | apply zP | apply zQ | apply zR | apply zS | apply zT | apply zU | (apply zV; (· omega)) | (apply zW; (· omega)) | (apply zX; (· (first | omega | (dsimp only; omega)))) | (apply zY; (try (apply zY; apply zX; (· omega))); apply zX; (· omega); apply zX; (· (first | omega | (dsimp only; omega)))) | ((first | apply yJ | apply yK | apply yL | apply yM | apply yN | apply yO); (· exact hgA); (· exact hsA)) | (apply yNP; (· exact hgA); (· exact hsA)) | ((first | apply zA | apply zC | apply zE | apply zG); (· omega)) | ((first | apply zB | apply zD | apply zF | apply zH); (· omega)) | ((first | apply zI | apply zK); (· with_reducible assumption)) | ((first | apply zJ | apply zL); (· with_reducible assumption)) | fail)
        conv => whnf
        exact h
      | false =>
        have ep : pend S = S.dat.length := by unfold pend; rw [if_neg h0, if_neg (fun hh => by rcases hh with hh | hh; (· exact h2 hh); (· rw [hs] at hh; cases hh))]
        rw [ep] at h
        rw [hs] at g
        refine callS_walk tt_ok Try.func24 rfl (by kernel_rfl) ?_
        conv => whnf
        repeat' ((conv => whnf); first | ((first | (apply vB; (case h => with_reducible assumption)) | (apply vA; (case h => with_reducible assumption)) | (apply vC; (case h => with_reducible assumption)) | (apply vD; (case h => with_reducible assumption))); (case hk => exact kpA); (case he => omega)) | ((first | (apply vI; (case h => with_reducible assumption)) | (apply vG; (case h => with_reducible assumption)) | (apply vK; (case h => with_reducible assumption))); (case hk => exact kpA); (case he => omega); (case hp => omega); (case' g => intro hr_ hc_)) | ((first | (apply vJ; (case h => with_reducible assumption)) | (apply vH; (case h => with_reducible assumption)) | (apply vL; (case h => with_reducible assumption))); (case hk => exact kpA); (case he => omega); (case' g => intro hr_ hc_)) | (apply drawS_auto mixed tt_ok; (· kernel_rfl)) | apply zZ | apply yA | apply yB | ((first | apply zA | apply zC | apply zE | apply zG); (· with_reducible assumption)) | ((first | apply zB | apply zD | apply zF | apply zH); (· with_reducible assumption)) | apply zM | apply zN | apply zO | apply zP | apply zQ | apply zR | apply zS | apply zT | apply zU | (apply zV; (· omega)) | (apply zW; (· omega)) | (apply zX; (· (first | omega | (dsimp only; omega)))) | (apply zY; (try (apply zY; apply zX; (· omega))); apply zX; (· omega); apply zX; (· (first | omega | (dsimp only; omega)))) | ((first | apply yJ | apply yK | apply yL | apply yM | apply yN | apply yO); (· exact hgA); (· exact hsA)) | (apply yNP; (· exact hgA); (· exact hsA)) | ((first | apply zA | apply zC | apply zE | apply zG); (· omega)) | ((first | apply zB | apply zD | apply zF | apply zH); (· omega)) | ((first | apply zI | apply zK); (· with_reducible assumption)) | ((first | apply zJ | apply zL); (· with_reducible assumption)) | fail)
        conv => whnf
        exact h
theorem drop_c {fr sk : Int} (hM : MachP H mb po br pv S [iv fr, iv sk]) (hok : OkS S) (hsk : 0 ≤ sk ∧ sk ≤ 10000000000) (h : ∀ H', MFr H H' mb po mb → MachP H' mb mb false (.slice none 0 0) ⟨0, 0, S.sent, []⟩ [iv fr, iv (sk + pend S)] → K (.returned (.tuple #[])) H') :
    callS P (fnV 21) [.pointer (some ⟨mb, 0, none⟩)] H K := by
  have hpb := pend_bd hok
  have g := hM.g
  have hlt := hM.lt
  refine callS_walk tt_ok Try.func21 rfl (by kernel_rfl) ?_
  conv => whnf
  repeat' ((conv => whnf); first | refine pending_c hM hok ?_ | ((first | (apply vB; (case h => with_reducible assumption)) | (apply vA; (case h => with_reducible assumption)) | (apply vC; (case h => with_reducible assumption))); (case hk => exact kpA); (case he => omega)) | ((first | (apply vI; (case h => with_reducible assumption)) | (apply vG; (case h => with_reducible assumption)) | (apply vK; (case h => with_reducible assumption))); (case hk => exact kpA); (case he => omega); (case hp => omega); (case' g => intro hr_ hc_)) | ((first | (apply vJ; (case h => with_reducible assumption)) | (apply vH; (case h => with_reducible assumption)) | (apply vL; (case h => with_reducible assumption))); (case hk => exact kpA); (case he => omega); (case' g => intro hr_ hc_)) | (apply drawS_auto mixed tt_ok; (· kernel_rfl)) | apply zZ | apply yA | apply yB | ((first | apply zA | apply zC | apply zE | apply zG); (· with_reducible assumption)) | ((first | apply zB | apply zD | apply zF | apply zH); (· with_reducible assumption)) | apply zM | apply zN | apply zO | apply zP | apply zQ | apply zR | apply zS | apply zT | apply zU | (apply zV; (· omega)) | (apply zW; (· omega)) | (apply zX; (· (first | omega | (dsimp only; omega)))) | (apply zY; (try (apply zY; apply zX; (· omega))); apply zX; (· omega); apply zX; (· (first | omega | (dsimp only; omega)))) | ((first | apply yJ | apply yK | apply yL | apply yM | apply yN | apply yO); (· exact hgA); (· exact hsA)) | (apply yNP; (· exact hgA); (· exact hsA)) | ((first | apply zA | apply zC | apply zE | apply zG); (· omega)) | ((first | apply zB | apply zD | apply zF | apply zH); (· omega)) | ((first | apply zI | apply zK); (· with_reducible assumption)) | ((first | apply zJ | apply zL); (· with_reducible assumption)) | fail)
  conv => whnf
  refine h _ ⟨?_, fun j h1 h2 h3 => ?_, .inr (.inl rfl)⟩ ⟨?_, ?_, fun h1 _ => absurd rfl h1, .inl ⟨rfl, rfl, rfl⟩⟩
  · exact hoA
  · exact hgA
  · exact hgA
  · exact hoA
end
end Go.Abs
