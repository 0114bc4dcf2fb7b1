/- The statement VolumeChains is proved: for every input the law returns true and its arguments read as before; no conditions. -/
import Derived.Test.YtoakdiccepcelaaRowA
set_option linter.all false
namespace Go.Abs
open Go Go.Proofs Go.Proofs.Ytoakdiccepcelaa Go.ChangeAt Go.RowKit Go.ChangeShapes Go.WideShapes
theorem Try.own' : ownKnob Try.prog.godebug = none := by kernel_rfl
theorem chains_acall {DH : Type} (ds : List (DataW DH)) (H : AHeap) (vs : List Value) (h : ReadsArgs tt H [30, 3] vs ds) : ACall P 4 vs H (fun e _ => e = .returned (.bool true)) := by
  obtain ⟨v, vs, d, ds, rfl, rfl, h1, h⟩ := readsArgs_cons h
  obtain ⟨w, vs, d, ds, rfl, rfl, h2, h⟩ := readsArgs_cons h
  cases readsArgs_nil h
  obtain ⟨xs, hx, hl⟩ := arg_row h1
  obtain ⟨n, rfl, hn⟩ := arg_int h2
  exact chains_law hx hn hl
theorem chains_lifted (os : Os) (started : os.Started) (DH : Type) (enc : TypeId × Value → DH) :
    ReturnsInHanded {} Try.checked os 4 .any (Rows.volumeChainsSpec.pre6 enc Try.prog Try.f4 [] false) (Rows.volumeChainsSpec.post enc Try.prog Try.f4 false true false false) :=
  law_returns (C := Try.checked) (m := 8) Try.own' started (by kernel_rfl) Try.func4
    (ChangeSpec.witness6 (enc := enc) (C := Try.checked) false ⟨#[], #[.slice none 0 0, .int .i64 0], []⟩ 8 (by kernel_rfl) (by kernel_rfl) (by kernel_rfl) (by kernel_rfl))
    tt_ok (by kernel_rfl) rfl (by kernel_rfl) rfl (by kernel_rfl)
    (fun ds hl => by match ds, hl with | [d, d'], _ => exact ⟨rfl, rfl, rfl⟩)
    (fun ds H vs _ h => chains_acall ds H vs h)
theorem chains_holds : Rows.VolumeChainsSaid :=
  OpenClaim.holds_of_wide 4 Try.f4 rfl rfl rfl rfl rfl rfl rfl ⟨rfl, rfl, rfl, rfl, rfl⟩ rfl rfl rfl rfl rfl (by kernel_rfl) Try.func4 (by kernel_rfl)
    (of_decide_eq_true (by kernel_rfl)) (by unfold Func.isWrapper; rw [if_neg (by decide +kernel)]; exact ⟨rfl, rfl⟩)
    (fun os started H enc _ => chains_lifted os started H enc)
end Go.Abs
namespace Go.Proofs.Ytoakdiccepcelaa
theorem volumeChains_holds : Rows.VolumeChainsSaid := Go.Abs.chains_holds
end Go.Proofs.Ytoakdiccepcelaa
