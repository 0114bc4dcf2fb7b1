/- The statement NoteDecodes is proved: for every input the law returns true and its arguments read as before; no conditions. -/
import Derived.Test.YtpcnnioicfljfaaM10b
import Derived.Test.YtpcnnioicfljfaaRows
set_option linter.all false
set_option maxHeartbeats 4000000
set_option maxRecDepth 20000
namespace Go.Abs
open Go Go.Proofs Go.Proofs.Ytpcnnioicfljfaa Go.ChangeAt Go.RowKit Go.ChangeShapes Go.WideShapes
theorem Try.own2 : ownKnob Try.prog.godebug = none := by kernel_rfl
theorem awake_c {H : AHeap} {K : CK} (h : K (.returned (.bool true)) H) : callS P (fnV 5) [] H K :=
  by
  have e : ((fuelI P tt 400).call (.func (.func 5) #[] #[]) [] AHeap.empty okTrue) = ((True ∧ True) ∧ (True ∧ True)) := by kernel_rfl
  exact callS_closedT mixed tt_ok (n := 400) (by rw [e]; exact ⟨⟨trivial, trivial⟩, ⟨trivial, trivial⟩⟩) h
def RStrB : VR ByteArray := fun _ cs x => cs = [.string x] ∧ x.size ≤ 9223372036854775807
theorem dec_strB {t : TypeId} (h : dAt tt t = some .string) : Dec tt t 1 RStrB := by
  intro DH H ts vs ds hr
  cases hr with
  | string h1 h2 h3 h5 => exact ⟨_, [_], _, _, rfl, rfl, ⟨rfl, by unfold maxLen at h3; omega⟩, h5⟩
  | bool h1 h2 _ => have := (dAt_eq h h1).symm.trans h2; cases this
  | int h1 h2 _ _ _ => have := (dAt_eq h h1).symm.trans h2; cases this
  | sliceNil h1 h2 _ => have := (dAt_eq h h1).symm.trans h2; cases this
  | slice h1 h2 _ _ _ _ _ _ _ _ _ _ => have := (dAt_eq h h1).symm.trans h2; cases this
  | struct h1 h2 _ _ _ => have := (dAt_eq h h1).symm.trans h2; cases this
  | arr h1 h2 _ _ _ => have := (dAt_eq h h1).symm.trans h2; cases this
theorem decR_len (s : ByteArray) : ∀ (k i : Nat) (S : MS) (out : List FE), out.length ≤ 2000 → (decR s k i S out).out.length ≤ 2000
  | 0, i, S, out, h => by unfold decR; split <;> exact h
  | k + 1, i, S, out, h => by
    unfold decR
    split
    · exact h
    · exact decR_len s k _ _ _ h
    · split
      · simp
      · exact decR_len s k _ _ _ (by simp; omega)
theorem unpR_len (s : ByteArray) : ∀ (k p : Nat) (fr : Int) (out : List FE), out.length ≤ 2000 → (unpR s k p fr out).out.length ≤ 2000
  | 0, p, fr, out, h => h
  | k + 1, p, fr, out, h => by
    unfold unpR
    split
    · split
      · exact h
      · split
        · exact h
        · split
          · exact h
          · split
            · simp
            · exact unpR_len s k _ _ _ (by simp; omega)
    · exact h
theorem decS_len (s : ByteArray) : (decS s false).out.length ≤ 1000000 := by
  unfold decS
  split
  · simp
  · exact Nat.le_trans (decR_len s _ _ _ _ (by simp)) (by omega)
theorem unpS_len (s : ByteArray) : (unpS s).out.length ≤ 1000000 := by
  unfold unpS
  split
  · simp
  · exact Nat.le_trans (unpR_len s _ _ _ _ (by simp)) (by omega)
theorem OFE.le {H H' : AHeap} {b : Nat} {v : Value} {es : List FE} (h : OFE H b v es) (hle : H.le H') : OFE H' b v es := h.keep (fun j h1 _ _ _ => hle.get j h1) hle.size
theorem decodes_law {s : ByteArray} {H : AHeap} (hz : s.size ≤ 9223372036854775807) : ACall P 4 [.string s] H (fun e _ => e = .returned (.bool true)) := by
  refine acall_walk tt_ok Try.func4 rfl ?_
  conv => whnf
  by_cases hl : s.size ≤ 65546
  · skip
    repeat' ((conv => whnf); first | refine decode_c (fun H1 v1 hle1 hv1 => ?_) | refine refDecode_c (fun H2 v2 hle2 hv2 => ?_) | refine unpack_c (fun H3 v3 hle3 hv3 => ?_) | refine refUnpack_c (fun H4 v4 hle4 hv4 => ?_) | refine lists_fe (decS_len s) (((hv1.le hle2).le hle3).le hle4) ((hv2.le hle3).le hle4) ?_ | refine lists_fe (unpS_len s) (hv3.le hle4) hv4 ?_ | (apply awake_c) | (apply drawS_auto mixed tt_ok; (· kernel_rfl)) | apply zZ | apply yA | apply yB | ((first | apply zA | apply zC | apply zE | apply zG); (· with_reducible assumption)) | ((first | apply zB | apply zD | apply zF | apply zH); (· with_reducible assumption)) | apply zM | apply zN | apply zO | apply zP | apply zQ | apply zR | apply zS | apply zT | apply zU | (apply zV; (· omega)) | (apply zW; (· omega)) | (apply zX; (· (first | omega | (dsimp only; omega)))) | (apply zY; (try (apply zY; apply zX; (· omega))); apply zX; (· omega); apply zX; (· (first | omega | (dsimp only; omega)))) | ((first | apply zA | apply zC | apply zE | apply zG); (· omega)) | ((first | apply zB | apply zD | apply zF | apply zH); (· omega)) | ((first | apply zI | apply zK); (· with_reducible assumption)) | ((first | apply zJ | apply zL); (· with_reducible assumption)) | fail)
    conv => whnf
  · skip
    repeat' ((conv => whnf); first | (apply awake_c) | (apply drawS_auto mixed tt_ok; (· kernel_rfl)) | apply zZ | apply yA | apply yB | ((first | apply zA | apply zC | apply zE | apply zG); (· with_reducible assumption)) | ((first | apply zB | apply zD | apply zF | apply zH); (· with_reducible assumption)) | apply zM | apply zN | apply zO | apply zP | apply zQ | apply zR | apply zS | apply zT | apply zU | (apply zV; (· omega)) | (apply zW; (· omega)) | (apply zX; (· (first | omega | (dsimp only; omega)))) | (apply zY; (try (apply zY; apply zX; (· omega))); apply zX; (· omega); apply zX; (· (first | omega | (dsimp only; omega)))) | ((first | apply zA | apply zC | apply zE | apply zG); (· omega)) | ((first | apply zB | apply zD | apply zF | apply zH); (· omega)) | ((first | apply zI | apply zK); (· with_reducible assumption)) | ((first | apply zJ | apply zL); (· with_reducible assumption)) | fail)
    conv => whnf
theorem noteDecodes_acall {DH : Type} (ds : List (DataW DH)) (H : AHeap) (vs : List Value) (h : ReadsArgs tt H [9] vs ds) : ACall P 4 vs H (fun e _ => e = .returned (.bool true)) := by
  obtain ⟨v, vs, d, ds, rfl, rfl, h1, h⟩ := readsArgs_cons h
  cases readsArgs_nil h
  obtain ⟨x, hx⟩ := arg_one h1 (dec_strB rfl) rfl
  obtain ⟨hx1, hx2⟩ := hx
  obtain rfl : v = .string x := by simpa using hx1
  exact decodes_law hx2
theorem noteDecodes_lifted (os : Os) (started : os.Started) (DH : Type) (enc : TypeId × Value → DH) :
    ReturnsInHanded {} Try.checked os 4 .any (Rows.noteDecodesSpec.pre6 enc Try.prog Try.f4 [] false) (Rows.noteDecodesSpec.post enc Try.prog Try.f4 false true false false) :=
  law_returns (C := Try.checked) (m := 12) Try.own2 started (by kernel_rfl) Try.func4
    (ChangeSpec.witness6 (enc := enc) (C := Try.checked) false ⟨#[], #[.string .empty], []⟩ 8 (by kernel_rfl) (by kernel_rfl) (by kernel_rfl) (by kernel_rfl))
    tt_ok (by kernel_rfl) rfl (by kernel_rfl) rfl (by kernel_rfl)
    (fun ds hl => by match ds, hl with | [d0], _ => exact ⟨rfl, rfl, rfl⟩)
    (fun ds H vs hs h => noteDecodes_acall ds H vs h)
theorem noteDecodes_holds : Rows.NoteDecodesSaid :=
  OpenClaim.holds_of_wide 4 Try.f4 rfl rfl rfl rfl rfl rfl rfl ⟨rfl, rfl, rfl, rfl, rfl⟩ rfl rfl rfl rfl rfl (by kernel_rfl) Try.func4 (by kernel_rfl)
    (of_decide_eq_true (by kernel_rfl)) (by unfold Func.isWrapper; rw [if_neg (by decide +kernel)]; exact ⟨rfl, rfl⟩)
    (fun os started H enc _ => noteDecodes_lifted os started H enc)
end Go.Abs
namespace Go.Proofs.Ytpcnnioicfljfaa
theorem noteDecodesProved : Rows.NoteDecodesSaid := Go.Abs.noteDecodes_holds
end Go.Proofs.Ytpcnnioicfljfaa
