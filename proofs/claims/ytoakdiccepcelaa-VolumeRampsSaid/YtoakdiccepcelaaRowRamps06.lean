/- The statement VolumeRamps is proved: for every input the law returns true and its arguments read as before; no conditions. -/
import Derived.Test.YtoakdiccepcelaaP06
import Derived.Test.YtoakdiccepcelaaRows
set_option linter.all false
namespace Go.Abs
open Go Go.Proofs Go.Proofs.Ytoakdiccepcelaa Go.ChangeAt Go.RowKit Go.ChangeShapes Go.WideShapes
theorem Try.own2 : ownKnob Try.prog.godebug = none := by kernel_rfl
theorem volumeRamps_acall {DH : Type} (ds : List (DataW DH)) (H : AHeap) (vs : List Value) (h : ReadsArgs tt H [3, 3, 3, 23] vs ds) : ACall P 3 vs H (fun e _ => e = .returned (.bool true)) := by
  obtain ⟨v, vs, d, ds, rfl, rfl, h1, h⟩ := readsArgs_cons h
  obtain ⟨v, vs, d, ds, rfl, rfl, h2, h⟩ := readsArgs_cons h
  obtain ⟨v, vs, d, ds, rfl, rfl, h3, h⟩ := readsArgs_cons h
  obtain ⟨v, vs, d, ds, rfl, rfl, h4, h⟩ := readsArgs_cons h
  cases readsArgs_nil h
  obtain ⟨a, rfl, _⟩ := arg_int h1 rfl
  obtain ⟨b, rfl, _⟩ := arg_int h2 rfl
  obtain ⟨n, rfl, hn⟩ := arg_int h3 rfl
  obtain ⟨p, c, m, rfl, hm⟩ := arg_sl h4 rfl rfl (dec_slice rfl rfl (dec_int rfl))
  exact ramps_law hn hm
theorem volumeRamps_lifted (os : Os) (started : os.Started) (DH : Type) (enc : TypeId × Value → DH) :
    ReturnsInHanded {} Try.checked os 3 .any (Rows.volumeRampsSpec.pre6 enc Try.prog Try.f3 [] false) (Rows.volumeRampsSpec.post enc Try.prog Try.f3 false true false false) :=
  law_returns (C := Try.checked) (m := 12) Try.own2 started (by kernel_rfl) Try.func3
    (ChangeSpec.witness6 (enc := enc) (C := Try.checked) false ⟨#[], #[.int .i64 0, .int .i64 0, .int .i64 0, .slice none 0 0], []⟩ 8 (by kernel_rfl) (by kernel_rfl) (by kernel_rfl) (by kernel_rfl))
    tt_ok (by kernel_rfl) rfl (by kernel_rfl) rfl (by kernel_rfl)
    (fun ds hl => by match ds, hl with | [d0, d1, d2, d3], _ => exact ⟨rfl, rfl, rfl⟩)
    (fun ds H vs hs h => volumeRamps_acall ds H vs h)
theorem volumeRamps_holds : Rows.VolumeRampsSaid :=
  OpenClaim.holds_of_wide 3 Try.f3 rfl rfl rfl rfl rfl rfl rfl ⟨rfl, rfl, rfl, rfl, rfl⟩ rfl rfl rfl rfl rfl (by kernel_rfl) Try.func3 (by kernel_rfl)
    (of_decide_eq_true (by kernel_rfl)) (by unfold Func.isWrapper; rw [if_neg (by decide +kernel)]; exact ⟨rfl, rfl⟩)
    (fun os started H enc _ => volumeRamps_lifted os started H enc)
end Go.Abs
namespace Go.Proofs.Ytoakdiccepcelaa
theorem volumeRampsProved : Rows.VolumeRampsSaid := Go.Abs.volumeRamps_holds
end Go.Proofs.Ytoakdiccepcelaa
