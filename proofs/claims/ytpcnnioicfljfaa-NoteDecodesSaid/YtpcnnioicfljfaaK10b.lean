/- A single event among bytes: what the machine makes of it, and the reference's single. No conditions beyond those stated. -/
import Derived.Test.YtpcnnioicfljfaaJ10b
set_option linter.all false
set_option maxHeartbeats 2000000
set_option maxRecDepth 20000
namespace Go.Abs
open Go Go.Proofs

inductive SR where
  | bad (p : Int)
  | ok (e : Ev) (p : Nat)
def runM (s : ByteArray) : Nat → Nat → MS → SR
  | 0, p, _ => .bad p
  | k + 1, p, S => match stepS (sAt s p) S with
    | (_, _, true) => .bad p
    | (S', none, false) => runM s k (p + 1) S'
    | (S', some e, false) => if (e.kind = 9 ∧ S'.beg ≠ 0) ∨ (S'.run / 16 = 9 ∧ e.kind = 1) then .bad p else .ok e (p + 1)
def datN (s : ByteArray) (q n : Nat) : List Int := (List.range n).map fun j => sAt s (q + j)
theorem datN_succ (s : ByteArray) (q n : Nat) : datN s q (n + 1) = datN s q n ++ [sAt s (q + n)] := by
  unfold datN
  rw [List.range_succ, List.map_append]
  rfl
theorem datN_len (s : ByteArray) (q n : Nat) : (datN s q n).length = n := by simp [datN]
theorem byteV_at (s : ByteArray) (i : Nat) : byteV (.int .u8 (sAt s i)) = s.data.toList.getD i 0 := by
  unfold byteV sAt
  simp
theorem ext_bstr {s : ByteArray} {q n : Nat} (h : q + n ≤ s.size) : s.extract q (q + n) = bstr (datN s q n) := by
  unfold bstr strV
  apply ByteArray.ext
  rw [ByteArray.data_extract]
  apply Array.ext'
  rw [Array.toList_extract]
  have hs : s.data.toList.length = s.size := rfl
  apply List.ext_getElem
  · simp [datN, List.extract]; omega
  · intro i h1 h2
    simp only [List.extract, List.getElem_take, List.getElem_drop, datN, List.map_map, List.getElem_map, List.getElem_range, Function.comp_apply, byteV_at]
    rw [List.getD_eq_getElem?_getD, List.getElem?_eq_getElem (by simp [List.extract] at h1; omega)]
    rfl
theorem run_next {s : ByteArray} {p : Nat} (h : p < s.size) {S : MS} : runM s (s.size - p) p S = match stepS (sAt s p) S with
    | (_, _, true) => .bad p
    | (S', none, false) => runM s (s.size - (p + 1)) (p + 1) S'
    | (S', some e, false) => if (e.kind = 9 ∧ S'.beg ≠ 0) ∨ (S'.run / 16 = 9 ∧ e.kind = 1) then .bad p else .ok e (p + 1) := by
  rw [show s.size - p = (s.size - (p + 1)) + 1 by omega]
  rfl
theorem run_hi {s : ByteArray} {q : Nat} {c : Int} {snt : Bool} {dat : List Int} (hc : 128 ≤ c ∧ c < 240) (hq : q < s.size) (h : 127 < sAt s q) : runM s (s.size - q) q ⟨c, c, snt, dat⟩ = .bad q := by
  rw [run_next hq]
  by_cases h8 : 248 ≤ sAt s q
  · have e : stepS (sAt s q) ⟨c, c, snt, dat⟩ = (⟨c, c, snt, dat⟩, some ⟨9, 0, sAt s q - 248, 0, .empty⟩, false) := by unfold stepS; rw [if_pos h8]
    rw [e]
    dsimp only
    rw [if_pos (.inl ⟨rfl, by omega⟩)]
  · have e : stepS (sAt s q) ⟨c, c, snt, dat⟩ = (⟨c, c, snt, dat⟩, none, true) := by unfold stepS; rw [if_neg h8, if_neg (by dsimp only; omega), if_neg (by dsimp only; omega), if_pos (by dsimp only; omega)]
    rw [e]
theorem run_lo {s : ByteArray} {q : Nat} {c : Int} {snt : Bool} {dat : List Int} (hc : 128 ≤ c ∧ c < 240) (hq : q < s.size) (h : ¬ 127 < sAt s q) : runM s (s.size - q) q ⟨c, c, snt, dat⟩ =
    if dat.length + 1 < need c then runM s (s.size - (q + 1)) (q + 1) ⟨c, c, snt, dat ++ [sAt s q]⟩ else if c / 16 = 9 ∧ (evt c (dat ++ [sAt s q])).kind = 1 then .bad q else .ok (evt c (dat ++ [sAt s q])) (q + 1) := by
  rw [run_next hq]
  have e : stepS (sAt s q) ⟨c, c, snt, dat⟩ = pushD (sAt s q) ⟨c, c, snt, dat⟩ := by unfold stepS; rw [if_neg (by omega), if_neg (by dsimp only; omega), if_neg (by dsimp only; omega), if_neg (by dsimp only; omega), if_neg (by dsimp only; omega)]
  rw [e]
  unfold pushD
  dsimp only
  rw [List.length_append, List.length_singleton]
  by_cases hn : dat.length + 1 < need c
  · rw [if_pos hn, if_pos hn]
  · rw [if_neg hn, if_neg hn]
    dsimp only
    have hk : (evt c (dat ++ [sAt s q])).kind ≠ 9 := by
      unfold evt
      dsimp only
      split <;> omega
    by_cases h9 : c / 16 = 9 ∧ (evt c (dat ++ [sAt s q])).kind = 1
    · rw [if_pos (.inr h9), if_pos h9]
    · rw [if_neg (fun hh => hh.elim (fun g => hk g.1) h9), if_neg h9]
def SRK (H : AHeap) (K : CK) : SR → Prop
  | .bad q => ∀ H', H.le H' → K (.returned (.tuple #[.agg ⟨evL 0 ev0⟩, iv q, .bool false])) H'
  | .ok e q => ∀ H', H.le H' → K (.returned (.tuple #[.agg ⟨evL 0 e⟩, iv q, .bool true])) H'
section
variable {H : AHeap} {K : CK}
theorem single_c {s : ByteArray} {p : Nat} (hs : s.size ≤ 65536) (hp : p ≤ s.size) (h : SRK H K (runM s (s.size - p) p ⟨0, 0, false, []⟩)) : callS P (fnV 27) [.string s, iv p] H K := by
  by_cases hin : p < s.size
  · have hcb := sAt_bd s p
    have hec : sAt s (((p : Nat) : Int).toNat) = sAt s p := by rw [Int.toNat_natCast]
    rw [run_next hin] at h
    generalize hc : sAt s p = c at *
    by_cases h8 : 248 ≤ c
    · have e : stepS c ⟨0, 0, false, []⟩ = (⟨0, 0, false, []⟩, some ⟨9, 0, c - 248, 0, .empty⟩, false) := by unfold stepS; rw [if_pos h8]
      rw [e] at h
      dsimp only at h
      rw [if_neg (by omega)] at h
      refine callS_walk tt_ok Try.func27 rfl (by kernel_rfl) ?_
      conv => whnf
      repeat' ((conv => whnf); first | rw [hec] | (apply drawS_auto mixed tt_ok; (· kernel_rfl)) | apply zZ | apply yA | apply yB | ((first | apply zA | apply zC | apply zE | apply zG); (· with_reducible assumption)) | ((first | apply zB | apply zD | apply zF | apply zH); (· with_reducible assumption)) | apply zM | apply zN | apply zO | apply zP | apply zQ | apply zR | apply zS | apply zT | apply zU | (apply zV; (· omega)) | (apply zW; (· omega)) | (apply zX; (· (first | omega | (dsimp only; omega)))) | (apply zY; (try (apply zY; apply zX; (· omega))); apply zX; (· omega); apply zX; (· (first | omega | (dsimp only; omega)))) | ((first | apply yJ | apply yK | apply yL | apply yM | apply yN | apply yO); (· exact hgA); (· exact hsA)) | (apply yNP; (· exact hgA); (· exact hsA)) | ((first | apply zA | apply zC | apply zE | apply zG); (· omega)) | ((first | apply zB | apply zD | apply zF | apply zH); (· omega)) | ((first | apply zI | apply zK); (· with_reducible assumption)) | ((first | apply zJ | apply zL); (· with_reducible assumption)) | fail)
      conv => whnf
      exact h _ leA
    · by_cases h240 : c = 240
      · have e : stepS c ⟨0, 0, false, []⟩ = (begS c true, none, false) := by unfold stepS; rw [if_neg h8, if_neg (by dsimp only; omega), if_pos ⟨rfl, by omega, by omega⟩]
        rw [e] at h
        dsimp only at h
        have eb : begS c true = ⟨0, 240, true, datN s (p + 1) 0⟩ := by unfold begS; rw [if_pos h240, h240]; rfl
        rw [eb] at h
        generalize hR : runM s (s.size - (p + 1)) (p + 1) ⟨0, 240, true, datN s (p + 1) 0⟩ = R at h
        refine callS_walk tt_ok Try.func27 rfl (by kernel_rfl) ?_
        conv => whnf
        repeat' ((conv => whnf); first | rw [hec] | (apply drawS_auto mixed tt_ok; (· kernel_rfl)) | apply zZ | apply yA | apply yB | ((first | apply zA | apply zC | apply zE | apply zG); (· with_reducible assumption)) | ((first | apply zB | apply zD | apply zF | apply zH); (· with_reducible assumption)) | apply zM | apply zN | apply zO | apply zP | apply zQ | apply zR | apply zS | apply zT | apply zU | (apply zV; (· omega)) | (apply zW; (· omega)) | (apply zX; (· (first | omega | (dsimp only; omega)))) | (apply zY; (try (apply zY; apply zX; (· omega))); apply zX; (· omega); apply zX; (· (first | omega | (dsimp only; omega)))) | ((first | apply yJ | apply yK | apply yL | apply yM | apply yN | apply yO); (· exact hgA); (· exact hsA)) | (apply yNP; (· exact hgA); (· exact hsA)) | ((first | apply zA | apply zC | apply zE | apply zG); (· omega)) | ((first | apply zB | apply zD | apply zF | apply zH); (· omega)) | ((first | apply zI | apply zK); (· with_reducible assumption)) | ((first | apply zJ | apply zL); (· with_reducible assumption)) | fail)
        conv => whnf
        refine loopS_mask tt_ok (fun (n : Nat) => [.k, .k, .w, .w, .k, .w, .w, .w, .p (iv ((p + 1 + n : Nat) : Int)), .w, .w, .w, .w, .w, .w, .w, .w, .w, .w, .w, .w, .w, .w, .w, .w, .w, .w, .w, .w, .w, .w, .w, .w, .w, .w, .w, .w, .w, .w, .w, .w, .w, .w, .w, .w, .w, .w, .w, .w, .w, .w, .w, .w, .w, .w, .w, .w, .w, .w, .w, .w, .w, .w, .w, .w, .w, .w, .w, .w, .w, .w, .w, .w, .w, .w, .w, .w, .w, .w, .w, .w, .w, .w, .w, .w, .w, .w, .w, .w, .w, .w, .w, .w, .w, .w, .w, .w, .w, .w, .w, .w, .w, .w, .w, .w, .w, .w, .w, .w, .w, .w, .w, .w, .w, .w, .w, .w, .w, .w, .w, .w, .w, .w, .w, .w, .w, .w, .w, .w, .w, .w]) (fun (n : Nat) => H.push (.cells [iv 0, iv 0, iv 0, iv 0, iv 0, .string .empty] true 0)) (fun (n : Nat) => p + 1 + n ≤ s.size ∧ n ≤ 200 ∧ runM s (s.size - (p + 1 + n)) (p + 1 + n) ⟨0, 240, true, datN s (p + 1) n⟩ = R) (fun (n : Nat) => s.size - (p + 1 + n)) (0) (⟨by omega, by omega, hR⟩) ?_ (fun n hn => ?_)
        · conv => whnf
          refine weakH_of (HW.refl _) ?_
          repeat' (first | exact WT.nil | refine WT.same ?_ | refine WT.drop ?_ | refine WT.int (by omega) ?_ | refine WT.eq (by assumption) ?_ | refine WT.bl (by first | assumption | (symm; assumption)) ?_ | refine WT.vv (by assumption) ?_)
        obtain ⟨hi, hn2, he⟩ := hn
        have hdl := datN_len s (p + 1) n
        by_cases hj : p + 1 + n < s.size
        · have hcb2 := sAt_bd s (p + 1 + n)
          have hec2 : sAt s (((p + 1 + n : Nat) : Int).toNat) = sAt s (p + 1 + n) := by rw [Int.toNat_natCast]
          rw [run_next hj] at he
          generalize hd : sAt s (p + 1 + n) = d at *
          by_cases h7 : d = 247
          · have e2 : stepS d ⟨0, 240, true, datN s (p + 1) n⟩ = (⟨0, 0, true, []⟩, some ⟨8, 0, 0, 0, bstr (datN s (p + 1) n)⟩, false) := by unfold stepS; rw [if_neg (by omega), if_pos rfl, if_pos h7]
            rw [e2] at he
            dsimp only at he
            rw [if_neg (by omega)] at he
            subst he
            have hx : s.extract ((p : Int) + 1).toNat (((p + 1 + n : Nat) : Int)).toNat = bstr (datN s (p + 1) n) := by
              rw [Int.toNat_natCast, show ((p : Int) + 1).toNat = p + 1 by omega]
              exact ext_bstr hi
            repeat' ((conv => whnf); first | rw [hec2] | rw [hx] | (apply drawS_auto mixed tt_ok; (· kernel_rfl)) | apply zZ | apply yA | apply yB | ((first | apply zA | apply zC | apply zE | apply zG); (· with_reducible assumption)) | ((first | apply zB | apply zD | apply zF | apply zH); (· with_reducible assumption)) | apply zM | apply zN | apply zO | apply zP | apply zQ | apply zR | apply zS | apply zT | apply zU | (apply zV; (· omega)) | (apply zW; (· omega)) | (apply zX; (· (first | omega | (dsimp only; omega)))) | (apply zY; (try (apply zY; apply zX; (· omega))); apply zX; (· omega); apply zX; (· (first | omega | (dsimp only; omega)))) | ((first | apply yJ | apply yK | apply yL | apply yM | apply yN | apply yO); (· exact hgA); (· exact hsA)) | (apply yNP; (· exact hgA); (· exact hsA)) | ((first | apply zA | apply zC | apply zE | apply zG); (· omega)) | ((first | apply zB | apply zD | apply zF | apply zH); (· omega)) | ((first | apply zI | apply zK); (· with_reducible assumption)) | ((first | apply zJ | apply zL); (· with_reducible assumption)) | fail)
            conv => whnf
            exact h _ leA
          · by_cases hw : 127 < d ∨ n = 200
            · have he2 : R = .bad ((p + 1 + n : Nat) : Int) := by
                subst he
                by_cases h88 : 248 ≤ d
                · have e2 : stepS d ⟨0, 240, true, datN s (p + 1) n⟩ = (⟨0, 240, true, datN s (p + 1) n⟩, some ⟨9, 0, d - 248, 0, .empty⟩, false) := by unfold stepS; rw [if_pos h88]
                  rw [e2]
                  dsimp only
                  rw [if_pos (by simp)]
                · have e2 : stepS d ⟨0, 240, true, datN s (p + 1) n⟩ = (⟨0, 240, true, datN s (p + 1) n⟩, none, true) := by unfold stepS; rw [if_neg h88, if_pos rfl, if_neg h7, if_pos (by dsimp only; rw [hdl]; exact hw)]
                  rw [e2]
              subst he2
              by_cases hw1 : 127 < d
              · skip
                repeat' ((conv => whnf); first | rw [hec2] | (apply drawS_auto mixed tt_ok; (· kernel_rfl)) | apply zZ | apply yA | apply yB | ((first | apply zA | apply zC | apply zE | apply zG); (· with_reducible assumption)) | ((first | apply zB | apply zD | apply zF | apply zH); (· with_reducible assumption)) | apply zM | apply zN | apply zO | apply zP | apply zQ | apply zR | apply zS | apply zT | apply zU | (apply zV; (· omega)) | (apply zW; (· omega)) | (apply zX; (· (first | omega | (dsimp only; omega)))) | (apply zY; (try (apply zY; apply zX; (· omega))); apply zX; (· omega); apply zX; (· (first | omega | (dsimp only; omega)))) | ((first | apply yJ | apply yK | apply yL | apply yM | apply yN | apply yO); (· exact hgA); (· exact hsA)) | (apply yNP; (· exact hgA); (· exact hsA)) | ((first | apply zA | apply zC | apply zE | apply zG); (· omega)) | ((first | apply zB | apply zD | apply zF | apply zH); (· omega)) | ((first | apply zI | apply zK); (· with_reducible assumption)) | ((first | apply zJ | apply zL); (· with_reducible assumption)) | fail)
                conv => whnf
                exact h _ leA
              · skip
                repeat' ((conv => whnf); first | rw [hec2] | (apply drawS_auto mixed tt_ok; (· kernel_rfl)) | apply zZ | apply yA | apply yB | ((first | apply zA | apply zC | apply zE | apply zG); (· with_reducible assumption)) | ((first | apply zB | apply zD | apply zF | apply zH); (· with_reducible assumption)) | apply zM | apply zN | apply zO | apply zP | apply zQ | apply zR | apply zS | apply zT | apply zU | (apply zV; (· omega)) | (apply zW; (· omega)) | (apply zX; (· (first | omega | (dsimp only; omega)))) | (apply zY; (try (apply zY; apply zX; (· omega))); apply zX; (· omega); apply zX; (· (first | omega | (dsimp only; omega)))) | ((first | apply yJ | apply yK | apply yL | apply yM | apply yN | apply yO); (· exact hgA); (· exact hsA)) | (apply yNP; (· exact hgA); (· exact hsA)) | ((first | apply zA | apply zC | apply zE | apply zG); (· omega)) | ((first | apply zB | apply zD | apply zF | apply zH); (· omega)) | ((first | apply zI | apply zK); (· with_reducible assumption)) | ((first | apply zJ | apply zL); (· with_reducible assumption)) | fail)
                conv => whnf
                exact h _ leA
            · have e2 : stepS d ⟨0, 240, true, datN s (p + 1) n⟩ = (⟨0, 240, true, datN s (p + 1) (n + 1)⟩, none, false) := by unfold stepS; rw [if_neg (by omega), if_pos rfl, if_neg h7, if_neg (by dsimp only; rw [hdl]; exact hw), datN_succ, hd]
              rw [e2] at he
              dsimp only at he
              repeat' ((conv => whnf); first | rw [hec2] | (apply drawS_auto mixed tt_ok; (· kernel_rfl)) | apply zZ | apply yA | apply yB | ((first | apply zA | apply zC | apply zE | apply zG); (· with_reducible assumption)) | ((first | apply zB | apply zD | apply zF | apply zH); (· with_reducible assumption)) | apply zM | apply zN | apply zO | apply zP | apply zQ | apply zR | apply zS | apply zT | apply zU | (apply zV; (· omega)) | (apply zW; (· omega)) | (apply zX; (· (first | omega | (dsimp only; omega)))) | (apply zY; (try (apply zY; apply zX; (· omega))); apply zX; (· omega); apply zX; (· (first | omega | (dsimp only; omega)))) | ((first | apply yJ | apply yK | apply yL | apply yM | apply yN | apply yO); (· exact hgA); (· exact hsA)) | (apply yNP; (· exact hgA); (· exact hsA)) | ((first | apply zA | apply zC | apply zE | apply zG); (· omega)) | ((first | apply zB | apply zD | apply zF | apply zH); (· omega)) | ((first | apply zI | apply zK); (· with_reducible assumption)) | ((first | apply zJ | apply zL); (· with_reducible assumption)) | fail)
              conv => whnf
              apply Exists.intro (n + 1)
              refine ⟨?inv, ?mu, ?wk⟩
              case wk =>
                conv => whnf
                refine weakH_of (HW.refl _) ?_
                repeat' (first | exact WT.nil | refine WT.same ?_ | refine WT.drop ?_ | refine WT.int (by omega) ?_ | refine WT.eq (by assumption) ?_ | refine WT.bl (by first | assumption | (symm; assumption)) ?_ | refine WT.vv (by assumption) ?_)
              case mu => first | omega | (dsimp only; omega)
              case inv => exact ⟨by omega, by omega, he⟩
        · have hz : p + 1 + n = s.size := by omega
          have he2 : R = .bad (s.size : Int) := by
            rw [show s.size - (p + 1 + n) = 0 by omega] at he
            rw [← he]
            show SR.bad ((p + 1 + n : Nat) : Int) = _
            rw [hz]
          subst he2
          rw [hz]
          repeat' ((conv => whnf); first | (apply drawS_auto mixed tt_ok; (· kernel_rfl)) | apply zZ | apply yA | apply yB | ((first | apply zA | apply zC | apply zE | apply zG); (· with_reducible assumption)) | ((first | apply zB | apply zD | apply zF | apply zH); (· with_reducible assumption)) | apply zM | apply zN | apply zO | apply zP | apply zQ | apply zR | apply zS | apply zT | apply zU | (apply zV; (· omega)) | (apply zW; (· omega)) | (apply zX; (· (first | omega | (dsimp only; omega)))) | (apply zY; (try (apply zY; apply zX; (· omega))); apply zX; (· omega); apply zX; (· (first | omega | (dsimp only; omega)))) | ((first | apply yJ | apply yK | apply yL | apply yM | apply yN | apply yO); (· exact hgA); (· exact hsA)) | (apply yNP; (· exact hgA); (· exact hsA)) | ((first | apply zA | apply zC | apply zE | apply zG); (· omega)) | ((first | apply zB | apply zD | apply zF | apply zH); (· omega)) | ((first | apply zI | apply zK); (· with_reducible assumption)) | ((first | apply zJ | apply zL); (· with_reducible assumption)) | fail)
          conv => whnf
          exact h _ leA
      · by_cases hev : 128 ≤ c ∧ c < 240
        · have e : stepS c ⟨0, 0, false, []⟩ = (⟨c, c, true, []⟩, none, false) := by unfold stepS; rw [if_neg h8, if_neg (by dsimp only; omega), if_pos ⟨rfl, by omega, by omega⟩]; unfold begS; rw [if_neg h240]
          rw [e] at h
          dsimp only at h
          have hnd := need_bd c
          have hnd2 : (if (c - 112) / 16 = 5 ∨ (c - 112) / 16 = 6 then 1 else 2) = need c := rfl
          have hA : sAt s (((p : Int) + 1).toNat) = sAt s (p + 1) := by rw [show ((p : Int) + 1).toNat = p + 1 by omega]
          have hB : sAt s (((p : Int) + (1 + 1)).toNat) = sAt s (p + 2) := by rw [show ((p : Int) + (1 + 1)).toNat = p + 2 by omega]
          by_cases h1 : p + 1 < s.size
          · have hc1 := sAt_bd s (p + 1)
            by_cases hd1 : 127 < sAt s (p + 1)
            · rw [run_hi hev h1 hd1] at h
              refine callS_walk tt_ok Try.func27 rfl (by kernel_rfl) ?_
              conv => whnf
              repeat' ((conv => whnf); first | rw [hec] | rw [tdv hev] | (apply drawS_auto mixed tt_ok; (· kernel_rfl)) | apply zZ | apply yA | apply yB | ((first | apply zA | apply zC | apply zE | apply zG); (· with_reducible assumption)) | ((first | apply zB | apply zD | apply zF | apply zH); (· with_reducible assumption)) | apply zM | apply zN | apply zO | apply zP | apply zQ | apply zR | apply zS | apply zT | apply zU | (apply zV; (· omega)) | (apply zW; (· omega)) | (apply zX; (· (first | omega | (dsimp only; omega)))) | (apply zY; (try (apply zY; apply zX; (· omega))); apply zX; (· omega); apply zX; (· (first | omega | (dsimp only; omega)))) | ((first | apply yJ | apply yK | apply yL | apply yM | apply yN | apply yO); (· exact hgA); (· exact hsA)) | (apply yNP; (· exact hgA); (· exact hsA)) | ((first | apply zA | apply zC | apply zE | apply zG); (· omega)) | ((first | apply zB | apply zD | apply zF | apply zH); (· omega)) | ((first | apply zI | apply zK); (· with_reducible assumption)) | ((first | apply zJ | apply zL); (· with_reducible assumption)) | fail)
              conv => whnf
              refine loopS_round tt_ok ?_
              rcases (show need c = 1 ∨ need c = 2 by omega) with hq | hq
              · rw [hq] at hnd2
                repeat' ((conv => whnf); first | refine dataR_c hnd2 ?_ | rw [hA] | (apply drawS_auto mixed tt_ok; (· kernel_rfl)) | apply zZ | apply yA | apply yB | ((first | apply zA | apply zC | apply zE | apply zG); (· with_reducible assumption)) | ((first | apply zB | apply zD | apply zF | apply zH); (· with_reducible assumption)) | apply zM | apply zN | apply zO | apply zP | apply zQ | apply zR | apply zS | apply zT | apply zU | (apply zV; (· omega)) | (apply zW; (· omega)) | (apply zX; (· (first | omega | (dsimp only; omega)))) | (apply zY; (try (apply zY; apply zX; (· omega))); apply zX; (· omega); apply zX; (· (first | omega | (dsimp only; omega)))) | ((first | apply yJ | apply yK | apply yL | apply yM | apply yN | apply yO); (· exact hgA); (· exact hsA)) | (apply yNP; (· exact hgA); (· exact hsA)) | ((first | apply zA | apply zC | apply zE | apply zG); (· omega)) | ((first | apply zB | apply zD | apply zF | apply zH); (· omega)) | ((first | apply zI | apply zK); (· with_reducible assumption)) | ((first | apply zJ | apply zL); (· with_reducible assumption)) | fail)
                conv => whnf
                exact h _ leA
              · rw [hq] at hnd2
                repeat' ((conv => whnf); first | refine dataR_c hnd2 ?_ | rw [hA] | (apply drawS_auto mixed tt_ok; (· kernel_rfl)) | apply zZ | apply yA | apply yB | ((first | apply zA | apply zC | apply zE | apply zG); (· with_reducible assumption)) | ((first | apply zB | apply zD | apply zF | apply zH); (· with_reducible assumption)) | apply zM | apply zN | apply zO | apply zP | apply zQ | apply zR | apply zS | apply zT | apply zU | (apply zV; (· omega)) | (apply zW; (· omega)) | (apply zX; (· (first | omega | (dsimp only; omega)))) | (apply zY; (try (apply zY; apply zX; (· omega))); apply zX; (· omega); apply zX; (· (first | omega | (dsimp only; omega)))) | ((first | apply yJ | apply yK | apply yL | apply yM | apply yN | apply yO); (· exact hgA); (· exact hsA)) | (apply yNP; (· exact hgA); (· exact hsA)) | ((first | apply zA | apply zC | apply zE | apply zG); (· omega)) | ((first | apply zB | apply zD | apply zF | apply zH); (· omega)) | ((first | apply zI | apply zK); (· with_reducible assumption)) | ((first | apply zJ | apply zL); (· with_reducible assumption)) | fail)
                conv => whnf
                exact h _ leA
            · rw [run_lo hev h1 hd1, List.length_nil] at h
              rcases (show need c = 1 ∨ need c = 2 by omega) with hq | hq
              · rw [hq] at hnd2
                rw [hq, if_neg (by omega)] at h
                have hk1 : (c - 112) / 16 ≠ 2 := fun e => by unfold need at hq; rw [if_neg (by omega)] at hq; omega
                have hk2 : (c - 112) / 16 = 5 ∨ (c - 112) / 16 = 6 := by
                  by_cases hh : (c - 112) / 16 = 5 ∨ (c - 112) / 16 = 6
                  · exact hh
                  · unfold need at hq; rw [if_neg hh] at hq; omega
                rw [if_neg (by omega)] at h
                have hx : s.extract ((p : Int) + 1).toNat ((p : Int) + 1 + ((1 : Nat) : Int)).toNat = bstr [sAt s (p + 1)] := by
                  rw [show ((p : Int) + 1).toNat = p + 1 by omega, show ((p : Int) + 1 + ((1 : Nat) : Int)).toNat = p + 1 + 1 by omega]
                  rw [ext_bstr (by omega)]
                  rfl
                refine callS_walk tt_ok Try.func27 rfl (by kernel_rfl) ?_
                conv => whnf
                repeat' ((conv => whnf); first | rw [hec] | rw [tdv hev] | (apply drawS_auto mixed tt_ok; (· kernel_rfl)) | apply zZ | apply yA | apply yB | ((first | apply zA | apply zC | apply zE | apply zG); (· with_reducible assumption)) | ((first | apply zB | apply zD | apply zF | apply zH); (· with_reducible assumption)) | apply zM | apply zN | apply zO | apply zP | apply zQ | apply zR | apply zS | apply zT | apply zU | (apply zV; (· omega)) | (apply zW; (· omega)) | (apply zX; (· (first | omega | (dsimp only; omega)))) | (apply zY; (try (apply zY; apply zX; (· omega))); apply zX; (· omega); apply zX; (· (first | omega | (dsimp only; omega)))) | ((first | apply yJ | apply yK | apply yL | apply yM | apply yN | apply yO); (· exact hgA); (· exact hsA)) | (apply yNP; (· exact hgA); (· exact hsA)) | ((first | apply zA | apply zC | apply zE | apply zG); (· omega)) | ((first | apply zB | apply zD | apply zF | apply zH); (· omega)) | ((first | apply zI | apply zK); (· with_reducible assumption)) | ((first | apply zJ | apply zL); (· with_reducible assumption)) | fail)
                conv => whnf
                refine loopS_round tt_ok ?_
                repeat' ((conv => whnf); first | refine dataR_c hnd2 ?_ | rw [hA] | (apply drawS_auto mixed tt_ok; (· kernel_rfl)) | apply zZ | apply yA | apply yB | ((first | apply zA | apply zC | apply zE | apply zG); (· with_reducible assumption)) | ((first | apply zB | apply zD | apply zF | apply zH); (· with_reducible assumption)) | apply zM | apply zN | apply zO | apply zP | apply zQ | apply zR | apply zS | apply zT | apply zU | (apply zV; (· omega)) | (apply zW; (· omega)) | (apply zX; (· (first | omega | (dsimp only; omega)))) | (apply zY; (try (apply zY; apply zX; (· omega))); apply zX; (· omega); apply zX; (· (first | omega | (dsimp only; omega)))) | ((first | apply yJ | apply yK | apply yL | apply yM | apply yN | apply yO); (· exact hgA); (· exact hsA)) | (apply yNP; (· exact hgA); (· exact hsA)) | ((first | apply zA | apply zC | apply zE | apply zG); (· omega)) | ((first | apply zB | apply zD | apply zF | apply zH); (· omega)) | ((first | apply zI | apply zK); (· with_reducible assumption)) | ((first | apply zJ | apply zL); (· with_reducible assumption)) | fail)
                conv => whnf
                refine loopS_round tt_ok ?_
                repeat' ((conv => whnf); first | refine dataR_c hnd2 ?_ | rw [hA] | rw [hx] | refine event1 hev ⟨hc1.1, by omega⟩ hk1 ?_ | (apply drawS_auto mixed tt_ok; (· kernel_rfl)) | apply zZ | apply yA | apply yB | ((first | apply zA | apply zC | apply zE | apply zG); (· with_reducible assumption)) | ((first | apply zB | apply zD | apply zF | apply zH); (· with_reducible assumption)) | apply zM | apply zN | apply zO | apply zP | apply zQ | apply zR | apply zS | apply zT | apply zU | (apply zV; (· omega)) | (apply zW; (· omega)) | (apply zX; (· (first | omega | (dsimp only; omega)))) | (apply zY; (try (apply zY; apply zX; (· omega))); apply zX; (· omega); apply zX; (· (first | omega | (dsimp only; omega)))) | ((first | apply yJ | apply yK | apply yL | apply yM | apply yN | apply yO); (· exact hgA); (· exact hsA)) | (apply yNP; (· exact hgA); (· exact hsA)) | ((first | apply zA | apply zC | apply zE | apply zG); (· omega)) | ((first | apply zB | apply zD | apply zF | apply zH); (· omega)) | ((first | apply zI | apply zK); (· with_reducible assumption)) | ((first | apply zJ | apply zL); (· with_reducible assumption)) | fail)
                conv => whnf
                exact h _ leA
              · rw [hq] at hnd2
                rw [hq, if_pos (by omega), List.nil_append] at h
                by_cases h2 : p + 1 + 1 < s.size
                · have hc2 := sAt_bd s (p + 2)
                  by_cases hd2 : 127 < sAt s (p + 2)
                  · rw [run_hi hev h2 hd2] at h
                    refine callS_walk tt_ok Try.func27 rfl (by kernel_rfl) ?_
                    conv => whnf
                    repeat' ((conv => whnf); first | rw [hec] | rw [tdv hev] | (apply drawS_auto mixed tt_ok; (· kernel_rfl)) | apply zZ | apply yA | apply yB | ((first | apply zA | apply zC | apply zE | apply zG); (· with_reducible assumption)) | ((first | apply zB | apply zD | apply zF | apply zH); (· with_reducible assumption)) | apply zM | apply zN | apply zO | apply zP | apply zQ | apply zR | apply zS | apply zT | apply zU | (apply zV; (· omega)) | (apply zW; (· omega)) | (apply zX; (· (first | omega | (dsimp only; omega)))) | (apply zY; (try (apply zY; apply zX; (· omega))); apply zX; (· omega); apply zX; (· (first | omega | (dsimp only; omega)))) | ((first | apply yJ | apply yK | apply yL | apply yM | apply yN | apply yO); (· exact hgA); (· exact hsA)) | (apply yNP; (· exact hgA); (· exact hsA)) | ((first | apply zA | apply zC | apply zE | apply zG); (· omega)) | ((first | apply zB | apply zD | apply zF | apply zH); (· omega)) | ((first | apply zI | apply zK); (· with_reducible assumption)) | ((first | apply zJ | apply zL); (· with_reducible assumption)) | fail)
                    conv => whnf
                    refine loopS_round tt_ok ?_
                    repeat' ((conv => whnf); first | refine dataR_c hnd2 ?_ | rw [hA] | (apply drawS_auto mixed tt_ok; (· kernel_rfl)) | apply zZ | apply yA | apply yB | ((first | apply zA | apply zC | apply zE | apply zG); (· with_reducible assumption)) | ((first | apply zB | apply zD | apply zF | apply zH); (· with_reducible assumption)) | apply zM | apply zN | apply zO | apply zP | apply zQ | apply zR | apply zS | apply zT | apply zU | (apply zV; (· omega)) | (apply zW; (· omega)) | (apply zX; (· (first | omega | (dsimp only; omega)))) | (apply zY; (try (apply zY; apply zX; (· omega))); apply zX; (· omega); apply zX; (· (first | omega | (dsimp only; omega)))) | ((first | apply yJ | apply yK | apply yL | apply yM | apply yN | apply yO); (· exact hgA); (· exact hsA)) | (apply yNP; (· exact hgA); (· exact hsA)) | ((first | apply zA | apply zC | apply zE | apply zG); (· omega)) | ((first | apply zB | apply zD | apply zF | apply zH); (· omega)) | ((first | apply zI | apply zK); (· with_reducible assumption)) | ((first | apply zJ | apply zL); (· with_reducible assumption)) | fail)
                    conv => whnf
                    refine loopS_round tt_ok ?_
                    repeat' ((conv => whnf); first | refine dataR_c hnd2 ?_ | rw [hB] | (apply drawS_auto mixed tt_ok; (· kernel_rfl)) | apply zZ | apply yA | apply yB | ((first | apply zA | apply zC | apply zE | apply zG); (· with_reducible assumption)) | ((first | apply zB | apply zD | apply zF | apply zH); (· with_reducible assumption)) | apply zM | apply zN | apply zO | apply zP | apply zQ | apply zR | apply zS | apply zT | apply zU | (apply zV; (· omega)) | (apply zW; (· omega)) | (apply zX; (· (first | omega | (dsimp only; omega)))) | (apply zY; (try (apply zY; apply zX; (· omega))); apply zX; (· omega); apply zX; (· (first | omega | (dsimp only; omega)))) | ((first | apply yJ | apply yK | apply yL | apply yM | apply yN | apply yO); (· exact hgA); (· exact hsA)) | (apply yNP; (· exact hgA); (· exact hsA)) | ((first | apply zA | apply zC | apply zE | apply zG); (· omega)) | ((first | apply zB | apply zD | apply zF | apply zH); (· omega)) | ((first | apply zI | apply zK); (· with_reducible assumption)) | ((first | apply zJ | apply zL); (· with_reducible assumption)) | fail)
                    conv => whnf
                    exact h _ leA
                  · rw [run_lo hev h2 hd2, List.length_singleton, hq, if_neg (by omega)] at h
                    by_cases h9 : c / 16 = 9 ∧ (evt c ([sAt s (p + 1)] ++ [sAt s (p + 1 + 1)])).kind = 1
                    · rw [if_pos h9] at h
                      have hk9 : (c - 112) / 16 = 2 := by omega
                      have hz2 : sAt s (p + 2) = 0 := by
                        have := h9.2
                        unfold evt at this
                        dsimp only at this
                        rw [hk9] at this
                        by_cases hh : sAt s (p + 2) = 0
                        · exact hh
                        · exfalso
                          rw [if_neg (by simp; exact hh)] at this
                          omega
                      refine callS_walk tt_ok Try.func27 rfl (by kernel_rfl) ?_
                      conv => whnf
                      repeat' ((conv => whnf); first | rw [hec] | rw [tdv hev] | (apply drawS_auto mixed tt_ok; (· kernel_rfl)) | apply zZ | apply yA | apply yB | ((first | apply zA | apply zC | apply zE | apply zG); (· with_reducible assumption)) | ((first | apply zB | apply zD | apply zF | apply zH); (· with_reducible assumption)) | apply zM | apply zN | apply zO | apply zP | apply zQ | apply zR | apply zS | apply zT | apply zU | (apply zV; (· omega)) | (apply zW; (· omega)) | (apply zX; (· (first | omega | (dsimp only; omega)))) | (apply zY; (try (apply zY; apply zX; (· omega))); apply zX; (· omega); apply zX; (· (first | omega | (dsimp only; omega)))) | ((first | apply yJ | apply yK | apply yL | apply yM | apply yN | apply yO); (· exact hgA); (· exact hsA)) | (apply yNP; (· exact hgA); (· exact hsA)) | ((first | apply zA | apply zC | apply zE | apply zG); (· omega)) | ((first | apply zB | apply zD | apply zF | apply zH); (· omega)) | ((first | apply zI | apply zK); (· with_reducible assumption)) | ((first | apply zJ | apply zL); (· with_reducible assumption)) | fail)
                      conv => whnf
                      refine loopS_round tt_ok ?_
                      repeat' ((conv => whnf); first | refine dataR_c hnd2 ?_ | rw [hA] | (apply drawS_auto mixed tt_ok; (· kernel_rfl)) | apply zZ | apply yA | apply yB | ((first | apply zA | apply zC | apply zE | apply zG); (· with_reducible assumption)) | ((first | apply zB | apply zD | apply zF | apply zH); (· with_reducible assumption)) | apply zM | apply zN | apply zO | apply zP | apply zQ | apply zR | apply zS | apply zT | apply zU | (apply zV; (· omega)) | (apply zW; (· omega)) | (apply zX; (· (first | omega | (dsimp only; omega)))) | (apply zY; (try (apply zY; apply zX; (· omega))); apply zX; (· omega); apply zX; (· (first | omega | (dsimp only; omega)))) | ((first | apply yJ | apply yK | apply yL | apply yM | apply yN | apply yO); (· exact hgA); (· exact hsA)) | (apply yNP; (· exact hgA); (· exact hsA)) | ((first | apply zA | apply zC | apply zE | apply zG); (· omega)) | ((first | apply zB | apply zD | apply zF | apply zH); (· omega)) | ((first | apply zI | apply zK); (· with_reducible assumption)) | ((first | apply zJ | apply zL); (· with_reducible assumption)) | fail)
                      conv => whnf
                      refine loopS_round tt_ok ?_
                      repeat' ((conv => whnf); first | refine dataR_c hnd2 ?_ | rw [hB] | (apply drawS_auto mixed tt_ok; (· kernel_rfl)) | apply zZ | apply yA | apply yB | ((first | apply zA | apply zC | apply zE | apply zG); (· with_reducible assumption)) | ((first | apply zB | apply zD | apply zF | apply zH); (· with_reducible assumption)) | apply zM | apply zN | apply zO | apply zP | apply zQ | apply zR | apply zS | apply zT | apply zU | (apply zV; (· omega)) | (apply zW; (· omega)) | (apply zX; (· (first | omega | (dsimp only; omega)))) | (apply zY; (try (apply zY; apply zX; (· omega))); apply zX; (· omega); apply zX; (· (first | omega | (dsimp only; omega)))) | ((first | apply yJ | apply yK | apply yL | apply yM | apply yN | apply yO); (· exact hgA); (· exact hsA)) | (apply yNP; (· exact hgA); (· exact hsA)) | ((first | apply zA | apply zC | apply zE | apply zG); (· omega)) | ((first | apply zB | apply zD | apply zF | apply zH); (· omega)) | ((first | apply zI | apply zK); (· with_reducible assumption)) | ((first | apply zJ | apply zL); (· with_reducible assumption)) | fail)
                      conv => whnf
                      exact h _ leA
                    · rw [if_neg h9] at h
                      have hx : s.extract ((p : Int) + 1).toNat ((p : Int) + 1 + ((2 : Nat) : Int)).toNat = bstr [sAt s (p + 1), sAt s (p + 2)] := by
                        rw [show ((p : Int) + 1).toNat = p + 1 by omega, show ((p : Int) + 1 + ((2 : Nat) : Int)).toNat = p + 1 + 2 by omega]
                        rw [ext_bstr (by omega)]
                        rfl
                      by_cases hk9 : (c - 112) / 16 = 2
                      · have hz2 : sAt s (p + 2) ≠ 0 := fun hh => h9 ⟨by omega, by unfold evt; dsimp only; rw [if_pos ⟨hk9, by simp; exact hh⟩]⟩
                        refine callS_walk tt_ok Try.func27 rfl (by kernel_rfl) ?_
                        conv => whnf
                        repeat' ((conv => whnf); first | rw [hec] | rw [tdv hev] | (apply drawS_auto mixed tt_ok; (· kernel_rfl)) | apply zZ | apply yA | apply yB | ((first | apply zA | apply zC | apply zE | apply zG); (· with_reducible assumption)) | ((first | apply zB | apply zD | apply zF | apply zH); (· with_reducible assumption)) | apply zM | apply zN | apply zO | apply zP | apply zQ | apply zR | apply zS | apply zT | apply zU | (apply zV; (· omega)) | (apply zW; (· omega)) | (apply zX; (· (first | omega | (dsimp only; omega)))) | (apply zY; (try (apply zY; apply zX; (· omega))); apply zX; (· omega); apply zX; (· (first | omega | (dsimp only; omega)))) | ((first | apply yJ | apply yK | apply yL | apply yM | apply yN | apply yO); (· exact hgA); (· exact hsA)) | (apply yNP; (· exact hgA); (· exact hsA)) | ((first | apply zA | apply zC | apply zE | apply zG); (· omega)) | ((first | apply zB | apply zD | apply zF | apply zH); (· omega)) | ((first | apply zI | apply zK); (· with_reducible assumption)) | ((first | apply zJ | apply zL); (· with_reducible assumption)) | fail)
                        conv => whnf
                        refine loopS_round tt_ok ?_
                        repeat' ((conv => whnf); first | refine dataR_c hnd2 ?_ | rw [hA] | (apply drawS_auto mixed tt_ok; (· kernel_rfl)) | apply zZ | apply yA | apply yB | ((first | apply zA | apply zC | apply zE | apply zG); (· with_reducible assumption)) | ((first | apply zB | apply zD | apply zF | apply zH); (· with_reducible assumption)) | apply zM | apply zN | apply zO | apply zP | apply zQ | apply zR | apply zS | apply zT | apply zU | (apply zV; (· omega)) | (apply zW; (· omega)) | (apply zX; (· (first | omega | (dsimp only; omega)))) | (apply zY; (try (apply zY; apply zX; (· omega))); apply zX; (· omega); apply zX; (· (first | omega | (dsimp only; omega)))) | ((first | apply yJ | apply yK | apply yL | apply yM | apply yN | apply yO); (· exact hgA); (· exact hsA)) | (apply yNP; (· exact hgA); (· exact hsA)) | ((first | apply zA | apply zC | apply zE | apply zG); (· omega)) | ((first | apply zB | apply zD | apply zF | apply zH); (· omega)) | ((first | apply zI | apply zK); (· with_reducible assumption)) | ((first | apply zJ | apply zL); (· with_reducible assumption)) | fail)
                        conv => whnf
                        refine loopS_round tt_ok ?_
                        repeat' ((conv => whnf); first | refine dataR_c hnd2 ?_ | rw [hB] | (apply drawS_auto mixed tt_ok; (· kernel_rfl)) | apply zZ | apply yA | apply yB | ((first | apply zA | apply zC | apply zE | apply zG); (· with_reducible assumption)) | ((first | apply zB | apply zD | apply zF | apply zH); (· with_reducible assumption)) | apply zM | apply zN | apply zO | apply zP | apply zQ | apply zR | apply zS | apply zT | apply zU | (apply zV; (· omega)) | (apply zW; (· omega)) | (apply zX; (· (first | omega | (dsimp only; omega)))) | (apply zY; (try (apply zY; apply zX; (· omega))); apply zX; (· omega); apply zX; (· (first | omega | (dsimp only; omega)))) | ((first | apply yJ | apply yK | apply yL | apply yM | apply yN | apply yO); (· exact hgA); (· exact hsA)) | (apply yNP; (· exact hgA); (· exact hsA)) | ((first | apply zA | apply zC | apply zE | apply zG); (· omega)) | ((first | apply zB | apply zD | apply zF | apply zH); (· omega)) | ((first | apply zI | apply zK); (· with_reducible assumption)) | ((first | apply zJ | apply zL); (· with_reducible assumption)) | fail)
                        conv => whnf
                        refine loopS_round tt_ok ?_
                        repeat' ((conv => whnf); first | refine dataR_c hnd2 ?_ | rw [hx] | refine event2 hev ⟨hc1.1, by omega⟩ ⟨hc2.1, by omega⟩ ?_ | (apply drawS_auto mixed tt_ok; (· kernel_rfl)) | apply zZ | apply yA | apply yB | ((first | apply zA | apply zC | apply zE | apply zG); (· with_reducible assumption)) | ((first | apply zB | apply zD | apply zF | apply zH); (· with_reducible assumption)) | apply zM | apply zN | apply zO | apply zP | apply zQ | apply zR | apply zS | apply zT | apply zU | (apply zV; (· omega)) | (apply zW; (· omega)) | (apply zX; (· (first | omega | (dsimp only; omega)))) | (apply zY; (try (apply zY; apply zX; (· omega))); apply zX; (· omega); apply zX; (· (first | omega | (dsimp only; omega)))) | ((first | apply yJ | apply yK | apply yL | apply yM | apply yN | apply yO); (· exact hgA); (· exact hsA)) | (apply yNP; (· exact hgA); (· exact hsA)) | ((first | apply zA | apply zC | apply zE | apply zG); (· omega)) | ((first | apply zB | apply zD | apply zF | apply zH); (· omega)) | ((first | apply zI | apply zK); (· with_reducible assumption)) | ((first | apply zJ | apply zL); (· with_reducible assumption)) | fail)
                        conv => whnf
                        exact h _ leA
                      · skip
                        refine callS_walk tt_ok Try.func27 rfl (by kernel_rfl) ?_
                        conv => whnf
                        repeat' ((conv => whnf); first | rw [hec] | rw [tdv hev] | (apply drawS_auto mixed tt_ok; (· kernel_rfl)) | apply zZ | apply yA | apply yB | ((first | apply zA | apply zC | apply zE | apply zG); (· with_reducible assumption)) | ((first | apply zB | apply zD | apply zF | apply zH); (· with_reducible assumption)) | apply zM | apply zN | apply zO | apply zP | apply zQ | apply zR | apply zS | apply zT | apply zU | (apply zV; (· omega)) | (apply zW; (· omega)) | (apply zX; (· (first | omega | (dsimp only; omega)))) | (apply zY; (try (apply zY; apply zX; (· omega))); apply zX; (· omega); apply zX; (· (first | omega | (dsimp only; omega)))) | ((first | apply yJ | apply yK | apply yL | apply yM | apply yN | apply yO); (· exact hgA); (· exact hsA)) | (apply yNP; (· exact hgA); (· exact hsA)) | ((first | apply zA | apply zC | apply zE | apply zG); (· omega)) | ((first | apply zB | apply zD | apply zF | apply zH); (· omega)) | ((first | apply zI | apply zK); (· with_reducible assumption)) | ((first | apply zJ | apply zL); (· with_reducible assumption)) | fail)
                        conv => whnf
                        refine loopS_round tt_ok ?_
                        repeat' ((conv => whnf); first | refine dataR_c hnd2 ?_ | rw [hA] | (apply drawS_auto mixed tt_ok; (· kernel_rfl)) | apply zZ | apply yA | apply yB | ((first | apply zA | apply zC | apply zE | apply zG); (· with_reducible assumption)) | ((first | apply zB | apply zD | apply zF | apply zH); (· with_reducible assumption)) | apply zM | apply zN | apply zO | apply zP | apply zQ | apply zR | apply zS | apply zT | apply zU | (apply zV; (· omega)) | (apply zW; (· omega)) | (apply zX; (· (first | omega | (dsimp only; omega)))) | (apply zY; (try (apply zY; apply zX; (· omega))); apply zX; (· omega); apply zX; (· (first | omega | (dsimp only; omega)))) | ((first | apply yJ | apply yK | apply yL | apply yM | apply yN | apply yO); (· exact hgA); (· exact hsA)) | (apply yNP; (· exact hgA); (· exact hsA)) | ((first | apply zA | apply zC | apply zE | apply zG); (· omega)) | ((first | apply zB | apply zD | apply zF | apply zH); (· omega)) | ((first | apply zI | apply zK); (· with_reducible assumption)) | ((first | apply zJ | apply zL); (· with_reducible assumption)) | fail)
                        conv => whnf
                        refine loopS_round tt_ok ?_
                        repeat' ((conv => whnf); first | refine dataR_c hnd2 ?_ | rw [hB] | (apply drawS_auto mixed tt_ok; (· kernel_rfl)) | apply zZ | apply yA | apply yB | ((first | apply zA | apply zC | apply zE | apply zG); (· with_reducible assumption)) | ((first | apply zB | apply zD | apply zF | apply zH); (· with_reducible assumption)) | apply zM | apply zN | apply zO | apply zP | apply zQ | apply zR | apply zS | apply zT | apply zU | (apply zV; (· omega)) | (apply zW; (· omega)) | (apply zX; (· (first | omega | (dsimp only; omega)))) | (apply zY; (try (apply zY; apply zX; (· omega))); apply zX; (· omega); apply zX; (· (first | omega | (dsimp only; omega)))) | ((first | apply yJ | apply yK | apply yL | apply yM | apply yN | apply yO); (· exact hgA); (· exact hsA)) | (apply yNP; (· exact hgA); (· exact hsA)) | ((first | apply zA | apply zC | apply zE | apply zG); (· omega)) | ((first | apply zB | apply zD | apply zF | apply zH); (· omega)) | ((first | apply zI | apply zK); (· with_reducible assumption)) | ((first | apply zJ | apply zL); (· with_reducible assumption)) | fail)
                        conv => whnf
                        refine loopS_round tt_ok ?_
                        repeat' ((conv => whnf); first | refine dataR_c hnd2 ?_ | rw [hx] | refine event2 hev ⟨hc1.1, by omega⟩ ⟨hc2.1, by omega⟩ ?_ | (apply drawS_auto mixed tt_ok; (· kernel_rfl)) | apply zZ | apply yA | apply yB | ((first | apply zA | apply zC | apply zE | apply zG); (· with_reducible assumption)) | ((first | apply zB | apply zD | apply zF | apply zH); (· with_reducible assumption)) | apply zM | apply zN | apply zO | apply zP | apply zQ | apply zR | apply zS | apply zT | apply zU | (apply zV; (· omega)) | (apply zW; (· omega)) | (apply zX; (· (first | omega | (dsimp only; omega)))) | (apply zY; (try (apply zY; apply zX; (· omega))); apply zX; (· omega); apply zX; (· (first | omega | (dsimp only; omega)))) | ((first | apply yJ | apply yK | apply yL | apply yM | apply yN | apply yO); (· exact hgA); (· exact hsA)) | (apply yNP; (· exact hgA); (· exact hsA)) | ((first | apply zA | apply zC | apply zE | apply zG); (· omega)) | ((first | apply zB | apply zD | apply zF | apply zH); (· omega)) | ((first | apply zI | apply zK); (· with_reducible assumption)) | ((first | apply zJ | apply zL); (· with_reducible assumption)) | fail)
                        conv => whnf
                        exact h _ leA
                · have hz : p + 1 + 1 = s.size := by omega
                  rw [hz, Nat.sub_self] at h
                  have h := fun H' a => h H' a
                  rw [← hz] at h
                  refine callS_walk tt_ok Try.func27 rfl (by kernel_rfl) ?_
                  conv => whnf
                  repeat' ((conv => whnf); first | rw [hec] | rw [tdv hev] | (apply drawS_auto mixed tt_ok; (· kernel_rfl)) | apply zZ | apply yA | apply yB | ((first | apply zA | apply zC | apply zE | apply zG); (· with_reducible assumption)) | ((first | apply zB | apply zD | apply zF | apply zH); (· with_reducible assumption)) | apply zM | apply zN | apply zO | apply zP | apply zQ | apply zR | apply zS | apply zT | apply zU | (apply zV; (· omega)) | (apply zW; (· omega)) | (apply zX; (· (first | omega | (dsimp only; omega)))) | (apply zY; (try (apply zY; apply zX; (· omega))); apply zX; (· omega); apply zX; (· (first | omega | (dsimp only; omega)))) | ((first | apply yJ | apply yK | apply yL | apply yM | apply yN | apply yO); (· exact hgA); (· exact hsA)) | (apply yNP; (· exact hgA); (· exact hsA)) | ((first | apply zA | apply zC | apply zE | apply zG); (· omega)) | ((first | apply zB | apply zD | apply zF | apply zH); (· omega)) | ((first | apply zI | apply zK); (· with_reducible assumption)) | ((first | apply zJ | apply zL); (· with_reducible assumption)) | fail)
                  conv => whnf
                  refine loopS_round tt_ok ?_
                  repeat' ((conv => whnf); first | refine dataR_c hnd2 ?_ | rw [hA] | (apply drawS_auto mixed tt_ok; (· kernel_rfl)) | apply zZ | apply yA | apply yB | ((first | apply zA | apply zC | apply zE | apply zG); (· with_reducible assumption)) | ((first | apply zB | apply zD | apply zF | apply zH); (· with_reducible assumption)) | apply zM | apply zN | apply zO | apply zP | apply zQ | apply zR | apply zS | apply zT | apply zU | (apply zV; (· omega)) | (apply zW; (· omega)) | (apply zX; (· (first | omega | (dsimp only; omega)))) | (apply zY; (try (apply zY; apply zX; (· omega))); apply zX; (· omega); apply zX; (· (first | omega | (dsimp only; omega)))) | ((first | apply yJ | apply yK | apply yL | apply yM | apply yN | apply yO); (· exact hgA); (· exact hsA)) | (apply yNP; (· exact hgA); (· exact hsA)) | ((first | apply zA | apply zC | apply zE | apply zG); (· omega)) | ((first | apply zB | apply zD | apply zF | apply zH); (· omega)) | ((first | apply zI | apply zK); (· with_reducible assumption)) | ((first | apply zJ | apply zL); (· with_reducible assumption)) | fail)
                  conv => whnf
                  refine loopS_round tt_ok ?_
                  repeat' ((conv => whnf); first | refine dataR_c hnd2 ?_ | rw [hB] | (apply drawS_auto mixed tt_ok; (· kernel_rfl)) | apply zZ | apply yA | apply yB | ((first | apply zA | apply zC | apply zE | apply zG); (· with_reducible assumption)) | ((first | apply zB | apply zD | apply zF | apply zH); (· with_reducible assumption)) | apply zM | apply zN | apply zO | apply zP | apply zQ | apply zR | apply zS | apply zT | apply zU | (apply zV; (· omega)) | (apply zW; (· omega)) | (apply zX; (· (first | omega | (dsimp only; omega)))) | (apply zY; (try (apply zY; apply zX; (· omega))); apply zX; (· omega); apply zX; (· (first | omega | (dsimp only; omega)))) | ((first | apply yJ | apply yK | apply yL | apply yM | apply yN | apply yO); (· exact hgA); (· exact hsA)) | (apply yNP; (· exact hgA); (· exact hsA)) | ((first | apply zA | apply zC | apply zE | apply zG); (· omega)) | ((first | apply zB | apply zD | apply zF | apply zH); (· omega)) | ((first | apply zI | apply zK); (· with_reducible assumption)) | ((first | apply zJ | apply zL); (· with_reducible assumption)) | fail)
                  conv => whnf
                  exact h _ leA
          · have hz : p + 1 = s.size := by omega
            rw [hz, Nat.sub_self] at h
            have h := fun H' a => h H' a
            rw [← hz] at h
            refine callS_walk tt_ok Try.func27 rfl (by kernel_rfl) ?_
            conv => whnf
            repeat' ((conv => whnf); first | rw [hec] | rw [tdv hev] | (apply drawS_auto mixed tt_ok; (· kernel_rfl)) | apply zZ | apply yA | apply yB | ((first | apply zA | apply zC | apply zE | apply zG); (· with_reducible assumption)) | ((first | apply zB | apply zD | apply zF | apply zH); (· with_reducible assumption)) | apply zM | apply zN | apply zO | apply zP | apply zQ | apply zR | apply zS | apply zT | apply zU | (apply zV; (· omega)) | (apply zW; (· omega)) | (apply zX; (· (first | omega | (dsimp only; omega)))) | (apply zY; (try (apply zY; apply zX; (· omega))); apply zX; (· omega); apply zX; (· (first | omega | (dsimp only; omega)))) | ((first | apply yJ | apply yK | apply yL | apply yM | apply yN | apply yO); (· exact hgA); (· exact hsA)) | (apply yNP; (· exact hgA); (· exact hsA)) | ((first | apply zA | apply zC | apply zE | apply zG); (· omega)) | ((first | apply zB | apply zD | apply zF | apply zH); (· omega)) | ((first | apply zI | apply zK); (· with_reducible assumption)) | ((first | apply zJ | apply zL); (· with_reducible assumption)) | fail)
            conv => whnf
            refine loopS_round tt_ok ?_
            rcases (show need c = 1 ∨ need c = 2 by omega) with hq | hq
            · rw [hq] at hnd2
              repeat' ((conv => whnf); first | refine dataR_c hnd2 ?_ | rw [hA] | (apply drawS_auto mixed tt_ok; (· kernel_rfl)) | apply zZ | apply yA | apply yB | ((first | apply zA | apply zC | apply zE | apply zG); (· with_reducible assumption)) | ((first | apply zB | apply zD | apply zF | apply zH); (· with_reducible assumption)) | apply zM | apply zN | apply zO | apply zP | apply zQ | apply zR | apply zS | apply zT | apply zU | (apply zV; (· omega)) | (apply zW; (· omega)) | (apply zX; (· (first | omega | (dsimp only; omega)))) | (apply zY; (try (apply zY; apply zX; (· omega))); apply zX; (· omega); apply zX; (· (first | omega | (dsimp only; omega)))) | ((first | apply yJ | apply yK | apply yL | apply yM | apply yN | apply yO); (· exact hgA); (· exact hsA)) | (apply yNP; (· exact hgA); (· exact hsA)) | ((first | apply zA | apply zC | apply zE | apply zG); (· omega)) | ((first | apply zB | apply zD | apply zF | apply zH); (· omega)) | ((first | apply zI | apply zK); (· with_reducible assumption)) | ((first | apply zJ | apply zL); (· with_reducible assumption)) | fail)
              conv => whnf
              exact h _ leA
            · rw [hq] at hnd2
              repeat' ((conv => whnf); first | refine dataR_c hnd2 ?_ | rw [hA] | (apply drawS_auto mixed tt_ok; (· kernel_rfl)) | apply zZ | apply yA | apply yB | ((first | apply zA | apply zC | apply zE | apply zG); (· with_reducible assumption)) | ((first | apply zB | apply zD | apply zF | apply zH); (· with_reducible assumption)) | apply zM | apply zN | apply zO | apply zP | apply zQ | apply zR | apply zS | apply zT | apply zU | (apply zV; (· omega)) | (apply zW; (· omega)) | (apply zX; (· (first | omega | (dsimp only; omega)))) | (apply zY; (try (apply zY; apply zX; (· omega))); apply zX; (· omega); apply zX; (· (first | omega | (dsimp only; omega)))) | ((first | apply yJ | apply yK | apply yL | apply yM | apply yN | apply yO); (· exact hgA); (· exact hsA)) | (apply yNP; (· exact hgA); (· exact hsA)) | ((first | apply zA | apply zC | apply zE | apply zG); (· omega)) | ((first | apply zB | apply zD | apply zF | apply zH); (· omega)) | ((first | apply zI | apply zK); (· with_reducible assumption)) | ((first | apply zJ | apply zL); (· with_reducible assumption)) | fail)
              conv => whnf
              exact h _ leA
        · have e : stepS c ⟨0, 0, false, []⟩ = (⟨0, 0, false, []⟩, none, true) := by unfold stepS; rw [if_neg h8, if_neg (by dsimp only; omega), if_neg (by dsimp only; omega), if_pos (by dsimp only; omega)]
          rw [e] at h
          dsimp only at h
          by_cases hlo : c < 128
          · skip
            refine callS_walk tt_ok Try.func27 rfl (by kernel_rfl) ?_
            conv => whnf
            repeat' ((conv => whnf); first | rw [hec] | (apply drawS_auto mixed tt_ok; (· kernel_rfl)) | apply zZ | apply yA | apply yB | ((first | apply zA | apply zC | apply zE | apply zG); (· with_reducible assumption)) | ((first | apply zB | apply zD | apply zF | apply zH); (· with_reducible assumption)) | apply zM | apply zN | apply zO | apply zP | apply zQ | apply zR | apply zS | apply zT | apply zU | (apply zV; (· omega)) | (apply zW; (· omega)) | (apply zX; (· (first | omega | (dsimp only; omega)))) | (apply zY; (try (apply zY; apply zX; (· omega))); apply zX; (· omega); apply zX; (· (first | omega | (dsimp only; omega)))) | ((first | apply yJ | apply yK | apply yL | apply yM | apply yN | apply yO); (· exact hgA); (· exact hsA)) | (apply yNP; (· exact hgA); (· exact hsA)) | ((first | apply zA | apply zC | apply zE | apply zG); (· omega)) | ((first | apply zB | apply zD | apply zF | apply zH); (· omega)) | ((first | apply zI | apply zK); (· with_reducible assumption)) | ((first | apply zJ | apply zL); (· with_reducible assumption)) | fail)
            conv => whnf
            exact h _ leA
          · skip
            refine callS_walk tt_ok Try.func27 rfl (by kernel_rfl) ?_
            conv => whnf
            repeat' ((conv => whnf); first | rw [hec] | (apply drawS_auto mixed tt_ok; (· kernel_rfl)) | apply zZ | apply yA | apply yB | ((first | apply zA | apply zC | apply zE | apply zG); (· with_reducible assumption)) | ((first | apply zB | apply zD | apply zF | apply zH); (· with_reducible assumption)) | apply zM | apply zN | apply zO | apply zP | apply zQ | apply zR | apply zS | apply zT | apply zU | (apply zV; (· omega)) | (apply zW; (· omega)) | (apply zX; (· (first | omega | (dsimp only; omega)))) | (apply zY; (try (apply zY; apply zX; (· omega))); apply zX; (· omega); apply zX; (· (first | omega | (dsimp only; omega)))) | ((first | apply yJ | apply yK | apply yL | apply yM | apply yN | apply yO); (· exact hgA); (· exact hsA)) | (apply yNP; (· exact hgA); (· exact hsA)) | ((first | apply zA | apply zC | apply zE | apply zG); (· omega)) | ((first | apply zB | apply zD | apply zF | apply zH); (· omega)) | ((first | apply zI | apply zK); (· with_reducible assumption)) | ((first | apply zJ | apply zL); (· with_reducible assumption)) | fail)
            conv => whnf
            exact h _ leA
  · have hz : p = s.size := by omega
    rw [hz, Nat.sub_self] at h
    rw [hz]
    refine callS_walk tt_ok Try.func27 rfl (by kernel_rfl) ?_
    conv => whnf
    repeat' ((conv => whnf); first | (apply drawS_auto mixed tt_ok; (· kernel_rfl)) | apply zZ | apply yA | apply yB | ((first | apply zA | apply zC | apply zE | apply zG); (· with_reducible assumption)) | ((first | apply zB | apply zD | apply zF | apply zH); (· with_reducible assumption)) | apply zM | apply zN | apply zO | apply zP | apply zQ | apply zR | apply zS | apply zT | apply zU | (apply zV; (· omega)) | (apply zW; (· omega)) | (apply zX; (· (first | omega | (dsimp only; omega)))) | (apply zY; (try (apply zY; apply zX; (· omega))); apply zX; (· omega); apply zX; (· (first | omega | (dsimp only; omega)))) | ((first | apply yJ | apply yK | apply yL | apply yM | apply yN | apply yO); (· exact hgA); (· exact hsA)) | (apply yNP; (· exact hgA); (· exact hsA)) | ((first | apply zA | apply zC | apply zE | apply zG); (· omega)) | ((first | apply zB | apply zD | apply zF | apply zH); (· omega)) | ((first | apply zI | apply zK); (· with_reducible assumption)) | ((first | apply zJ | apply zL); (· with_reducible assumption)) | fail)
    conv => whnf
    exact h _ leA
end
end Go.Abs
