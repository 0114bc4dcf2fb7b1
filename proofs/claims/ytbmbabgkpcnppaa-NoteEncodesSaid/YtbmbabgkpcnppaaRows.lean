/-
  No cell of these rows narrows 'for every input' (looked for: loops, veiled, ifaces, maps, wideKeys, modest, calm, conditions, laid).
  DERIVED. THE GIVEN ROWS OF THIS SEAT. 4 by the template 'for every input the law returns true; each argument reads behind the call as it read before'; 0 by the template 'total and deterministic' (their statements: YtbmbabgkpcnppaaTotals.lean).
  GIVEN WITH THE SEED: the statements are not yours to turn. If you find one false, say at which input.
  Laid BY PROGRAM, IN A SANDBOX (cutbox-rows.mjs): the forced cells as the released guide's own fill.sh prints them over the translation e611ed29f40d98c2… (all of the seat's roots in one cut). By AI agents, Wed Nov 11 2026. No macro, syntax, notation, axiom, sorry.
-/
import Derived.Test.YtbmbabgkpcnppaaChecked
import GoSem.Claim
import GoSem.ClaimJoined
import GoSem.ClaimMapViews
import Derived.JoinedTies
import Derived.KernelRfl
namespace Go.Proofs.Ytbmbabgkpcnppaa
/- THE CELL 'sum', in the pinned program and in every row, IS THE sha256 OF THE DUMP (.gsa) THAT YtbmbabgkpcnppaaProg.lean LOADS. Nothing in Lean hashes anything: it is a label: what it is worth is what the hold of that sum in a sandbox is worth. -/
noncomputable def Try.pinned : Pinned := { name := "ytbmbabgkpcnppaa", sum := "e611ed29f40d98c2533ac7bdf3ae02e1355e3d65e2143f2a6f51f5883aaad612", checked := Try.checked }
namespace Rows
def none {H : Type} : Left H := { results := [], args := [] }

/-- 'continuolaw10.NoteEncodes': WHATEVER THE INPUT: true; the input reads as it did. -/
def noteEncodesSpec : ChangeSpec := { name := "noteEncodes", fn := fun _ => fun
  | [d1, d2, d3] => { results := [.lit (.bool true)], args := [d1, d2, d3] }
  | _ => none }
def noteEncodesRow : OpenClaim := { program := "ytbmbabgkpcnppaa", sum := "e611ed29f40d98c2533ac7bdf3ae02e1355e3d65e2143f2a6f51f5883aaad612", func := "continuo/continuolaw10.NoteEncodes", spec := "noteEncodes", unfollowed := true, recurses := true, plainKeys := false, apart := false }
def NoteEncodesSaid : Prop := noteEncodesRow.holds Try.pinned (OpenSpec.ofChange noteEncodesSpec)

/-- ITS FALSE NEIGHBOUR: 'it returns false'. Refute it at one input. -/
def noteEncodesWrong : ChangeSpec := { name := "noteEncodes", fn := fun _ => fun
  | [d1, d2, d3] => { results := [.lit (.bool false)], args := [d1, d2, d3] }
  | _ => none }
def NoteEncodesWrongFalsely : Prop := noteEncodesRow.holds Try.pinned (OpenSpec.ofChange noteEncodesWrong)

/-- 'continuolaw10.NoteMerges': WHATEVER THE INPUT: true; the input reads as it did. -/
def noteMergesSpec : ChangeSpec := { name := "noteMerges", fn := fun _ => fun
  | [d] => { results := [.lit (.bool true)], args := [d] }
  | _ => none }
def noteMergesRow : OpenClaim := { program := "ytbmbabgkpcnppaa", sum := "e611ed29f40d98c2533ac7bdf3ae02e1355e3d65e2143f2a6f51f5883aaad612", func := "continuo/continuolaw10.NoteMerges", spec := "noteMerges", unfollowed := true, recurses := true, plainKeys := false, apart := false }
def NoteMergesSaid : Prop := noteMergesRow.holds Try.pinned (OpenSpec.ofChange noteMergesSpec)

/-- ITS FALSE NEIGHBOUR: 'it returns false'. Refute it at one input. -/
def noteMergesWrong : ChangeSpec := { name := "noteMerges", fn := fun _ => fun
  | [d] => { results := [.lit (.bool false)], args := [d] }
  | _ => none }
def NoteMergesWrongFalsely : Prop := noteMergesRow.holds Try.pinned (OpenSpec.ofChange noteMergesWrong)

/-- 'continuolaw10.NoteCut': WHATEVER THE INPUT: true; the input reads as it did. -/
def noteCutSpec : ChangeSpec := { name := "noteCut", fn := fun _ => fun
  | [d1, d2] => { results := [.lit (.bool true)], args := [d1, d2] }
  | _ => none }
def noteCutRow : OpenClaim := { program := "ytbmbabgkpcnppaa", sum := "e611ed29f40d98c2533ac7bdf3ae02e1355e3d65e2143f2a6f51f5883aaad612", func := "continuo/continuolaw10.NoteCut", spec := "noteCut", unfollowed := true, recurses := true, plainKeys := false, apart := false }
def NoteCutSaid : Prop := noteCutRow.holds Try.pinned (OpenSpec.ofChange noteCutSpec)

/-- ITS FALSE NEIGHBOUR: 'it returns false'. Refute it at one input. -/
def noteCutWrong : ChangeSpec := { name := "noteCut", fn := fun _ => fun
  | [d1, d2] => { results := [.lit (.bool false)], args := [d1, d2] }
  | _ => none }
def NoteCutWrongFalsely : Prop := noteCutRow.holds Try.pinned (OpenSpec.ofChange noteCutWrong)

/-- 'continuolaw10.NoteLists': WHATEVER THE INPUT: true; the input reads as it did. -/
def noteListsSpec : ChangeSpec := { name := "noteLists", fn := fun _ => fun
  | [d1, d2, d3, d4, d5, d6] => { results := [.lit (.bool true)], args := [d1, d2, d3, d4, d5, d6] }
  | _ => none }
def noteListsRow : OpenClaim := { program := "ytbmbabgkpcnppaa", sum := "e611ed29f40d98c2533ac7bdf3ae02e1355e3d65e2143f2a6f51f5883aaad612", func := "continuo/continuolaw10.NoteLists", spec := "noteLists", unfollowed := true, recurses := true, plainKeys := false, apart := false }
def NoteListsSaid : Prop := noteListsRow.holds Try.pinned (OpenSpec.ofChange noteListsSpec)

/-- ITS FALSE NEIGHBOUR: 'it returns false'. Refute it at one input. -/
def noteListsWrong : ChangeSpec := { name := "noteLists", fn := fun _ => fun
  | [d1, d2, d3, d4, d5, d6] => { results := [.lit (.bool false)], args := [d1, d2, d3, d4, d5, d6] }
  | _ => none }
def NoteListsWrongFalsely : Prop := noteListsRow.holds Try.pinned (OpenSpec.ofChange noteListsWrong)

/- THE SECOND FORM. 'bulk': how many values and letters a reading holds, each counted each time it is reached (what is shared counts as often as it is met; a slice's spare places count too). A statement '..UptoSaid' is the law's where the arguments, and the package variables that the reading takes, are together of bulk at most 1048576: NARROWER than '..Said'. Prove '..Said' where nothing that the law and all that it calls make is longer than what came in: it says more and counts as full. Else prove '..UptoSaid'. A law counts once. -/
mutual
def uptoBulk {H : Type} : DataW H → Nat
  | .lit (.string bytes) => bytes.length + 1
  | .lit _ => 1
  | .nil => 1
  | .ptr d => uptoBulk d + 1
  | .slice elems spare => uptoBulkAll elems + uptoBulkAll spare + 1
  | .agg parts => uptoBulkAll parts + 1
  | .iface _ d => uptoBulk d + 1
  | .map entries => uptoBulkEntries entries + 1
  | .held _ => 1
def uptoBulkAll {H : Type} : List (DataW H) → Nat
  | [] => 0
  | d :: r => uptoBulk d + uptoBulkAll r
def uptoBulkEntries {H : Type} : List (Lit × DataW H) → Nat
  | [] => 0
  | x :: r => uptoBulkEntry x + uptoBulkEntries r
def uptoBulkEntry {H : Type} : Lit × DataW H → Nat
  | (.string bytes, d) => bytes.length + uptoBulk d + 1
  | (_, d) => uptoBulk d + 1
 end
def uptoSmall : (H : Type) → List (DataW H) → Bool := fun _ ds => decide (uptoBulkAll ds ≤ 1048576)
def OpenSpec.upto (s : _root_.Go.ChangeSpec) : _root_.Go.OpenSpec := { _root_.Go.OpenSpec.ofChange s with cond := some uptoSmall }

/-- 'continuolaw10.NoteEncodes', WHERE WHAT IT READS IS OF BULK AT MOST 1048576: true; the input reads as it did. -/
def noteEncodesUptoRow : OpenClaim := { program := "ytbmbabgkpcnppaa", sum := "e611ed29f40d98c2533ac7bdf3ae02e1355e3d65e2143f2a6f51f5883aaad612", func := "continuo/continuolaw10.NoteEncodes", spec := "noteEncodes", unfollowed := true, recurses := true, plainKeys := false, apart := false, narrowed := true }
def NoteEncodesUptoSaid : Prop := noteEncodesUptoRow.holds Try.pinned (OpenSpec.upto noteEncodesSpec)

/-- 'continuolaw10.NoteMerges', WHERE WHAT IT READS IS OF BULK AT MOST 1048576: true; the input reads as it did. -/
def noteMergesUptoRow : OpenClaim := { program := "ytbmbabgkpcnppaa", sum := "e611ed29f40d98c2533ac7bdf3ae02e1355e3d65e2143f2a6f51f5883aaad612", func := "continuo/continuolaw10.NoteMerges", spec := "noteMerges", unfollowed := true, recurses := true, plainKeys := false, apart := false, narrowed := true }
def NoteMergesUptoSaid : Prop := noteMergesUptoRow.holds Try.pinned (OpenSpec.upto noteMergesSpec)

/-- 'continuolaw10.NoteCut', WHERE WHAT IT READS IS OF BULK AT MOST 1048576: true; the input reads as it did. -/
def noteCutUptoRow : OpenClaim := { program := "ytbmbabgkpcnppaa", sum := "e611ed29f40d98c2533ac7bdf3ae02e1355e3d65e2143f2a6f51f5883aaad612", func := "continuo/continuolaw10.NoteCut", spec := "noteCut", unfollowed := true, recurses := true, plainKeys := false, apart := false, narrowed := true }
def NoteCutUptoSaid : Prop := noteCutUptoRow.holds Try.pinned (OpenSpec.upto noteCutSpec)

/-- 'continuolaw10.NoteLists', WHERE WHAT IT READS IS OF BULK AT MOST 1048576: true; the input reads as it did. -/
def noteListsUptoRow : OpenClaim := { program := "ytbmbabgkpcnppaa", sum := "e611ed29f40d98c2533ac7bdf3ae02e1355e3d65e2143f2a6f51f5883aaad612", func := "continuo/continuolaw10.NoteLists", spec := "noteLists", unfollowed := true, recurses := true, plainKeys := false, apart := false, narrowed := true }
def NoteListsUptoSaid : Prop := noteListsUptoRow.holds Try.pinned (OpenSpec.upto noteListsSpec)

end Rows
end Go.Proofs.Ytbmbabgkpcnppaa
