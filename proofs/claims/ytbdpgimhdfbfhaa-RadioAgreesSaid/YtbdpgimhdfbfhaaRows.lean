/-
  No cell of these rows narrows 'for every input' (looked for: loops, veiled, ifaces, maps, wideKeys, modest, calm, conditions, laid).
  DERIVED. THE GIVEN ROWS OF THIS SEAT. 7 by the template 'for every input the law returns true; each argument reads behind the call as it read before'; 0 by the template 'total and deterministic' (their statements: YtbdpgimhdfbfhaaTotals.lean).
  GIVEN WITH THE SEED: the statements are not yours to turn. If you find one false, say at which input.
  Laid BY PROGRAM, IN A SANDBOX (cutbox-rows.mjs): the forced cells as the released guide's own fill.sh prints them over the translation 23749dd3049686a0… (all of the seat's roots in one cut). By AI agents, Wed Nov 11 2026. No macro, syntax, notation, axiom, sorry.
-/
import Derived.Test.YtbdpgimhdfbfhaaChecked
import GoSem.Claim
import GoSem.ClaimJoined
import GoSem.ClaimMapViews
import Derived.JoinedTies
import Derived.KernelRfl
namespace Go.Proofs.Ytbdpgimhdfbfhaa
/- THE CELL 'sum', in the pinned program and in every row, IS THE sha256 OF THE DUMP (.gsa) THAT YtbdpgimhdfbfhaaProg.lean LOADS. Nothing in Lean hashes anything: it is a label: what it is worth is what the hold of that sum in a sandbox is worth. -/
noncomputable def Try.pinned : Pinned := { name := "ytbdpgimhdfbfhaa", sum := "23749dd3049686a0457840363b3d542837f40f6f9ab2eac1304c9c01162fffd6", checked := Try.checked }
namespace Rows
def none {H : Type} : Left H := { results := [], args := [] }

/-- 'continuolaw21.RadioAgrees': WHATEVER THE INPUT: true; the input reads as it did. -/
def radioAgreesSpec : ChangeSpec := { name := "radioAgrees", fn := fun _ => fun
  | [d1, d2] => { results := [.lit (.bool true)], args := [d1, d2] }
  | _ => none }
def radioAgreesRow : OpenClaim := { program := "ytbdpgimhdfbfhaa", sum := "23749dd3049686a0457840363b3d542837f40f6f9ab2eac1304c9c01162fffd6", func := "continuo/continuolaw21.RadioAgrees", spec := "radioAgrees", unfollowed := true, recurses := true, apart := false }
def RadioAgreesSaid : Prop := radioAgreesRow.holds Try.pinned (OpenSpec.ofChange radioAgreesSpec)

/-- ITS FALSE NEIGHBOUR: 'it returns false'. Refute it at one input. -/
def radioAgreesWrong : ChangeSpec := { name := "radioAgrees", fn := fun _ => fun
  | [d1, d2] => { results := [.lit (.bool false)], args := [d1, d2] }
  | _ => none }
def RadioAgreesWrongFalsely : Prop := radioAgreesRow.holds Try.pinned (OpenSpec.ofChange radioAgreesWrong)

/-- 'continuolaw21.RadioBands': WHATEVER THE INPUT: true; the input reads as it did. -/
def radioBandsSpec : ChangeSpec := { name := "radioBands", fn := fun _ => fun
  | [d1, d2, d3, d4] => { results := [.lit (.bool true)], args := [d1, d2, d3, d4] }
  | _ => none }
def radioBandsRow : OpenClaim := { program := "ytbdpgimhdfbfhaa", sum := "23749dd3049686a0457840363b3d542837f40f6f9ab2eac1304c9c01162fffd6", func := "continuo/continuolaw21.RadioBands", spec := "radioBands", unfollowed := true, recurses := true, apart := false }
def RadioBandsSaid : Prop := radioBandsRow.holds Try.pinned (OpenSpec.ofChange radioBandsSpec)

/-- ITS FALSE NEIGHBOUR: 'it returns false'. Refute it at one input. -/
def radioBandsWrong : ChangeSpec := { name := "radioBands", fn := fun _ => fun
  | [d1, d2, d3, d4] => { results := [.lit (.bool false)], args := [d1, d2, d3, d4] }
  | _ => none }
def RadioBandsWrongFalsely : Prop := radioBandsRow.holds Try.pinned (OpenSpec.ofChange radioBandsWrong)

/-- 'continuolaw21.RadioReads': WHATEVER THE INPUT: true; the input reads as it did. -/
def radioReadsSpec : ChangeSpec := { name := "radioReads", fn := fun _ => fun
  | [d1, d2, d3, d4, d5] => { results := [.lit (.bool true)], args := [d1, d2, d3, d4, d5] }
  | _ => none }
def radioReadsRow : OpenClaim := { program := "ytbdpgimhdfbfhaa", sum := "23749dd3049686a0457840363b3d542837f40f6f9ab2eac1304c9c01162fffd6", func := "continuo/continuolaw21.RadioReads", spec := "radioReads", unfollowed := true, recurses := true, apart := false }
def RadioReadsSaid : Prop := radioReadsRow.holds Try.pinned (OpenSpec.ofChange radioReadsSpec)

/-- ITS FALSE NEIGHBOUR: 'it returns false'. Refute it at one input. -/
def radioReadsWrong : ChangeSpec := { name := "radioReads", fn := fun _ => fun
  | [d1, d2, d3, d4, d5] => { results := [.lit (.bool false)], args := [d1, d2, d3, d4, d5] }
  | _ => none }
def RadioReadsWrongFalsely : Prop := radioReadsRow.holds Try.pinned (OpenSpec.ofChange radioReadsWrong)

/-- 'continuolaw21.RadioFrames': WHATEVER THE INPUT: true; the input reads as it did. -/
def radioFramesSpec : ChangeSpec := { name := "radioFrames", fn := fun _ => fun
  | [d1, d2] => { results := [.lit (.bool true)], args := [d1, d2] }
  | _ => none }
def radioFramesRow : OpenClaim := { program := "ytbdpgimhdfbfhaa", sum := "23749dd3049686a0457840363b3d542837f40f6f9ab2eac1304c9c01162fffd6", func := "continuo/continuolaw21.RadioFrames", spec := "radioFrames", unfollowed := true, recurses := true, apart := false }
def RadioFramesSaid : Prop := radioFramesRow.holds Try.pinned (OpenSpec.ofChange radioFramesSpec)

/-- ITS FALSE NEIGHBOUR: 'it returns false'. Refute it at one input. -/
def radioFramesWrong : ChangeSpec := { name := "radioFrames", fn := fun _ => fun
  | [d1, d2] => { results := [.lit (.bool false)], args := [d1, d2] }
  | _ => none }
def RadioFramesWrongFalsely : Prop := radioFramesRow.holds Try.pinned (OpenSpec.ofChange radioFramesWrong)

/-- 'continuolaw21.RadioExact': WHATEVER THE INPUT: true; the input reads as it did. -/
def radioExactSpec : ChangeSpec := { name := "radioExact", fn := fun _ => fun
  | [d1, d2] => { results := [.lit (.bool true)], args := [d1, d2] }
  | _ => none }
def radioExactRow : OpenClaim := { program := "ytbdpgimhdfbfhaa", sum := "23749dd3049686a0457840363b3d542837f40f6f9ab2eac1304c9c01162fffd6", func := "continuo/continuolaw21.RadioExact", spec := "radioExact", unfollowed := true, recurses := true, apart := false }
def RadioExactSaid : Prop := radioExactRow.holds Try.pinned (OpenSpec.ofChange radioExactSpec)

/-- ITS FALSE NEIGHBOUR: 'it returns false'. Refute it at one input. -/
def radioExactWrong : ChangeSpec := { name := "radioExact", fn := fun _ => fun
  | [d1, d2] => { results := [.lit (.bool false)], args := [d1, d2] }
  | _ => none }
def RadioExactWrongFalsely : Prop := radioExactRow.holds Try.pinned (OpenSpec.ofChange radioExactWrong)

/-- 'continuolaw21.RadioNothing': WHATEVER THE INPUT: true; the input reads as it did. -/
def radioNothingSpec : ChangeSpec := { name := "radioNothing", fn := fun _ => fun
  | [d1, d2] => { results := [.lit (.bool true)], args := [d1, d2] }
  | _ => none }
def radioNothingRow : OpenClaim := { program := "ytbdpgimhdfbfhaa", sum := "23749dd3049686a0457840363b3d542837f40f6f9ab2eac1304c9c01162fffd6", func := "continuo/continuolaw21.RadioNothing", spec := "radioNothing", unfollowed := true, recurses := true, apart := false }
def RadioNothingSaid : Prop := radioNothingRow.holds Try.pinned (OpenSpec.ofChange radioNothingSpec)

/-- ITS FALSE NEIGHBOUR: 'it returns false'. Refute it at one input. -/
def radioNothingWrong : ChangeSpec := { name := "radioNothing", fn := fun _ => fun
  | [d1, d2] => { results := [.lit (.bool false)], args := [d1, d2] }
  | _ => none }
def RadioNothingWrongFalsely : Prop := radioNothingRow.holds Try.pinned (OpenSpec.ofChange radioNothingWrong)

/-- 'continuolaw21.RadioPlays': WHATEVER THE INPUT: true; the input reads as it did. -/
def radioPlaysSpec : ChangeSpec := { name := "radioPlays", fn := fun _ => fun
  | [d1, d2, d3, d4] => { results := [.lit (.bool true)], args := [d1, d2, d3, d4] }
  | _ => none }
def radioPlaysRow : OpenClaim := { program := "ytbdpgimhdfbfhaa", sum := "23749dd3049686a0457840363b3d542837f40f6f9ab2eac1304c9c01162fffd6", func := "continuo/continuolaw21.RadioPlays", spec := "radioPlays", unfollowed := true, recurses := true, apart := false }
def RadioPlaysSaid : Prop := radioPlaysRow.holds Try.pinned (OpenSpec.ofChange radioPlaysSpec)

/-- ITS FALSE NEIGHBOUR: 'it returns false'. Refute it at one input. -/
def radioPlaysWrong : ChangeSpec := { name := "radioPlays", fn := fun _ => fun
  | [d1, d2, d3, d4] => { results := [.lit (.bool false)], args := [d1, d2, d3, d4] }
  | _ => none }
def RadioPlaysWrongFalsely : Prop := radioPlaysRow.holds Try.pinned (OpenSpec.ofChange radioPlaysWrong)

/- THE SECOND FORM. 'bulk': how many values and letters a reading holds, each counted each time it is reached (what is shared counts as often as it is met; a slice's spare places count too). A statement '..UptoSaid' is the law's where the arguments, and the package variables that the reading takes, are together of bulk at most 1048576: NARROWER than '..Said'. Prove '..Said' where nothing that the law and all that it calls make is longer than what came in: it says more and counts as full. Else prove '..UptoSaid'. A law counts once. -/
mutual
def uptoBulk {H : Type} : DataW H → Nat
  | .lit (.string bytes) => bytes.length + 1
  | .lit _ => 1
  | .nil => 1
  | .ptr d => uptoBulk d + 1
  | .slice elems spare => uptoBulkAll elems + uptoBulkAll spare + 1
  | .agg parts => uptoBulkAll parts + 1
  | .iface _ d => uptoBulk d + 1
  | .map entries => uptoBulkEntries entries + 1
  | .held _ => 1
def uptoBulkAll {H : Type} : List (DataW H) → Nat
  | [] => 0
  | d :: r => uptoBulk d + uptoBulkAll r
def uptoBulkEntries {H : Type} : List (Lit × DataW H) → Nat
  | [] => 0
  | x :: r => uptoBulkEntry x + uptoBulkEntries r
def uptoBulkEntry {H : Type} : Lit × DataW H → Nat
  | (.string bytes, d) => bytes.length + uptoBulk d + 1
  | (_, d) => uptoBulk d + 1
 end
def uptoSmall : (H : Type) → List (DataW H) → Bool := fun _ ds => decide (uptoBulkAll ds ≤ 1048576)
def OpenSpec.upto (s : _root_.Go.ChangeSpec) : _root_.Go.OpenSpec := { _root_.Go.OpenSpec.ofChange s with cond := some uptoSmall }

/-- 'continuolaw21.RadioAgrees', WHERE WHAT IT READS IS OF BULK AT MOST 1048576: true; the input reads as it did. -/
def radioAgreesUptoRow : OpenClaim := { program := "ytbdpgimhdfbfhaa", sum := "23749dd3049686a0457840363b3d542837f40f6f9ab2eac1304c9c01162fffd6", func := "continuo/continuolaw21.RadioAgrees", spec := "radioAgrees", unfollowed := true, recurses := true, apart := false, narrowed := true }
def RadioAgreesUptoSaid : Prop := radioAgreesUptoRow.holds Try.pinned (OpenSpec.upto radioAgreesSpec)

/-- 'continuolaw21.RadioBands', WHERE WHAT IT READS IS OF BULK AT MOST 1048576: true; the input reads as it did. -/
def radioBandsUptoRow : OpenClaim := { program := "ytbdpgimhdfbfhaa", sum := "23749dd3049686a0457840363b3d542837f40f6f9ab2eac1304c9c01162fffd6", func := "continuo/continuolaw21.RadioBands", spec := "radioBands", unfollowed := true, recurses := true, apart := false, narrowed := true }
def RadioBandsUptoSaid : Prop := radioBandsUptoRow.holds Try.pinned (OpenSpec.upto radioBandsSpec)

/-- 'continuolaw21.RadioReads', WHERE WHAT IT READS IS OF BULK AT MOST 1048576: true; the input reads as it did. -/
def radioReadsUptoRow : OpenClaim := { program := "ytbdpgimhdfbfhaa", sum := "23749dd3049686a0457840363b3d542837f40f6f9ab2eac1304c9c01162fffd6", func := "continuo/continuolaw21.RadioReads", spec := "radioReads", unfollowed := true, recurses := true, apart := false, narrowed := true }
def RadioReadsUptoSaid : Prop := radioReadsUptoRow.holds Try.pinned (OpenSpec.upto radioReadsSpec)

/-- 'continuolaw21.RadioFrames', WHERE WHAT IT READS IS OF BULK AT MOST 1048576: true; the input reads as it did. -/
def radioFramesUptoRow : OpenClaim := { program := "ytbdpgimhdfbfhaa", sum := "23749dd3049686a0457840363b3d542837f40f6f9ab2eac1304c9c01162fffd6", func := "continuo/continuolaw21.RadioFrames", spec := "radioFrames", unfollowed := true, recurses := true, apart := false, narrowed := true }
def RadioFramesUptoSaid : Prop := radioFramesUptoRow.holds Try.pinned (OpenSpec.upto radioFramesSpec)

/-- 'continuolaw21.RadioExact', WHERE WHAT IT READS IS OF BULK AT MOST 1048576: true; the input reads as it did. -/
def radioExactUptoRow : OpenClaim := { program := "ytbdpgimhdfbfhaa", sum := "23749dd3049686a0457840363b3d542837f40f6f9ab2eac1304c9c01162fffd6", func := "continuo/continuolaw21.RadioExact", spec := "radioExact", unfollowed := true, recurses := true, apart := false, narrowed := true }
def RadioExactUptoSaid : Prop := radioExactUptoRow.holds Try.pinned (OpenSpec.upto radioExactSpec)

/-- 'continuolaw21.RadioNothing', WHERE WHAT IT READS IS OF BULK AT MOST 1048576: true; the input reads as it did. -/
def radioNothingUptoRow : OpenClaim := { program := "ytbdpgimhdfbfhaa", sum := "23749dd3049686a0457840363b3d542837f40f6f9ab2eac1304c9c01162fffd6", func := "continuo/continuolaw21.RadioNothing", spec := "radioNothing", unfollowed := true, recurses := true, apart := false, narrowed := true }
def RadioNothingUptoSaid : Prop := radioNothingUptoRow.holds Try.pinned (OpenSpec.upto radioNothingSpec)

/-- 'continuolaw21.RadioPlays', WHERE WHAT IT READS IS OF BULK AT MOST 1048576: true; the input reads as it did. -/
def radioPlaysUptoRow : OpenClaim := { program := "ytbdpgimhdfbfhaa", sum := "23749dd3049686a0457840363b3d542837f40f6f9ab2eac1304c9c01162fffd6", func := "continuo/continuolaw21.RadioPlays", spec := "radioPlays", unfollowed := true, recurses := true, apart := false, narrowed := true }
def RadioPlaysUptoSaid : Prop := radioPlaysUptoRow.holds Try.pinned (OpenSpec.upto radioPlaysSpec)

end Rows
end Go.Proofs.Ytbdpgimhdfbfhaa
