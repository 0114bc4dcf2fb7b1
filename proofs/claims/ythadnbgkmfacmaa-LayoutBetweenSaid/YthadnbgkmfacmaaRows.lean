/-
  No cell of these rows narrows 'for every input' (looked for: loops, veiled, ifaces, maps, wideKeys, modest, calm, conditions, laid).
  DERIVED. THE GIVEN ROWS OF THIS SEAT. 5 by the template 'for every input the law returns true; each argument reads behind the call as it read before'; 0 by the template 'total and deterministic' (their statements: YthadnbgkmfacmaaTotals.lean).
  GIVEN WITH THE SEED: the statements are not yours to turn. If you find one false, say at which input.
  Laid BY PROGRAM, IN A SANDBOX (cutbox-rows.mjs): the forced cells as the released guide's own fill.sh prints them over the translation 54203cd5a1e65314… (all of the seat's roots in one cut). By AI agents, Wed Nov 11 2026. No macro, syntax, notation, axiom, sorry.
-/
import Derived.Test.YthadnbgkmfacmaaChecked
import GoSem.Claim
import GoSem.ClaimJoined
import GoSem.ClaimMapViews
import Derived.JoinedTies
import Derived.KernelRfl
namespace Go.Proofs.Ythadnbgkmfacmaa
/- THE CELL 'sum', in the pinned program and in every row, IS THE sha256 OF THE DUMP (.gsa) THAT YthadnbgkmfacmaaProg.lean LOADS. Nothing in Lean hashes anything: it is a label: what it is worth is what the hold of that sum in a sandbox is worth. -/
noncomputable def Try.pinned : Pinned := { name := "ythadnbgkmfacmaa", sum := "54203cd5a1e653142bf8989c45c39c18b4760c21ead6e2f6d5dff83f7d0214ae", checked := Try.checked }
namespace Rows
def none {H : Type} : Left H := { results := [], args := [] }

/-- 'continuolaw03.MatrixJoins': WHATEVER THE INPUT: true; the input reads as it did. -/
def matrixJoinsSpec : ChangeSpec := { name := "matrixJoins", fn := fun _ => fun
  | [d1, d2, d3] => { results := [.lit (.bool true)], args := [d1, d2, d3] }
  | _ => none }
def matrixJoinsRow : OpenClaim := { program := "ythadnbgkmfacmaa", sum := "54203cd5a1e653142bf8989c45c39c18b4760c21ead6e2f6d5dff83f7d0214ae", func := "continuo/continuolaw03.MatrixJoins", spec := "matrixJoins", unfollowed := true, recurses := true, apart := false }
def MatrixJoinsSaid : Prop := matrixJoinsRow.holds Try.pinned (OpenSpec.ofChange matrixJoinsSpec)

/-- ITS FALSE NEIGHBOUR: 'it returns false'. Refute it at one input. -/
def matrixJoinsWrong : ChangeSpec := { name := "matrixJoins", fn := fun _ => fun
  | [d1, d2, d3] => { results := [.lit (.bool false)], args := [d1, d2, d3] }
  | _ => none }
def MatrixJoinsWrongFalsely : Prop := matrixJoinsRow.holds Try.pinned (OpenSpec.ofChange matrixJoinsWrong)

/-- 'continuolaw03.MatrixNormal': WHATEVER THE INPUT: true; the input reads as it did. -/
def matrixNormalSpec : ChangeSpec := { name := "matrixNormal", fn := fun _ => fun
  | [d1, d2] => { results := [.lit (.bool true)], args := [d1, d2] }
  | _ => none }
def matrixNormalRow : OpenClaim := { program := "ythadnbgkmfacmaa", sum := "54203cd5a1e653142bf8989c45c39c18b4760c21ead6e2f6d5dff83f7d0214ae", func := "continuo/continuolaw03.MatrixNormal", spec := "matrixNormal", unfollowed := true, recurses := true, apart := false }
def MatrixNormalSaid : Prop := matrixNormalRow.holds Try.pinned (OpenSpec.ofChange matrixNormalSpec)

/-- ITS FALSE NEIGHBOUR: 'it returns false'. Refute it at one input. -/
def matrixNormalWrong : ChangeSpec := { name := "matrixNormal", fn := fun _ => fun
  | [d1, d2] => { results := [.lit (.bool false)], args := [d1, d2] }
  | _ => none }
def MatrixNormalWrongFalsely : Prop := matrixNormalRow.holds Try.pinned (OpenSpec.ofChange matrixNormalWrong)

/-- 'continuolaw03.LayoutBetween': WHATEVER THE INPUT: true; the input reads as it did. -/
def layoutBetweenSpec : ChangeSpec := { name := "layoutBetween", fn := fun _ => fun
  | [d1, d2, d3] => { results := [.lit (.bool true)], args := [d1, d2, d3] }
  | _ => none }
def layoutBetweenRow : OpenClaim := { program := "ythadnbgkmfacmaa", sum := "54203cd5a1e653142bf8989c45c39c18b4760c21ead6e2f6d5dff83f7d0214ae", func := "continuo/continuolaw03.LayoutBetween", spec := "layoutBetween", unfollowed := true, recurses := true, apart := false }
def LayoutBetweenSaid : Prop := layoutBetweenRow.holds Try.pinned (OpenSpec.ofChange layoutBetweenSpec)

/-- ITS FALSE NEIGHBOUR: 'it returns false'. Refute it at one input. -/
def layoutBetweenWrong : ChangeSpec := { name := "layoutBetween", fn := fun _ => fun
  | [d1, d2, d3] => { results := [.lit (.bool false)], args := [d1, d2, d3] }
  | _ => none }
def LayoutBetweenWrongFalsely : Prop := layoutBetweenRow.holds Try.pinned (OpenSpec.ofChange layoutBetweenWrong)

/-- 'continuolaw03.LayoutUsual': WHATEVER THE INPUT: true; the input reads as it did. -/
def layoutUsualSpec : ChangeSpec := { name := "layoutUsual", fn := fun _ => fun
  | [d1, d2] => { results := [.lit (.bool true)], args := [d1, d2] }
  | _ => none }
def layoutUsualRow : OpenClaim := { program := "ythadnbgkmfacmaa", sum := "54203cd5a1e653142bf8989c45c39c18b4760c21ead6e2f6d5dff83f7d0214ae", func := "continuo/continuolaw03.LayoutUsual", spec := "layoutUsual", unfollowed := true, recurses := true, apart := false }
def LayoutUsualSaid : Prop := layoutUsualRow.holds Try.pinned (OpenSpec.ofChange layoutUsualSpec)

/-- ITS FALSE NEIGHBOUR: 'it returns false'. Refute it at one input. -/
def layoutUsualWrong : ChangeSpec := { name := "layoutUsual", fn := fun _ => fun
  | [d1, d2] => { results := [.lit (.bool false)], args := [d1, d2] }
  | _ => none }
def LayoutUsualWrongFalsely : Prop := layoutUsualRow.holds Try.pinned (OpenSpec.ofChange layoutUsualWrong)

/-- 'continuolaw03.MatrixApplies': WHATEVER THE INPUT: true; the input reads as it did. -/
def matrixAppliesSpec : ChangeSpec := { name := "matrixApplies", fn := fun _ => fun
  | [d1, d2] => { results := [.lit (.bool true)], args := [d1, d2] }
  | _ => none }
def matrixAppliesRow : OpenClaim := { program := "ythadnbgkmfacmaa", sum := "54203cd5a1e653142bf8989c45c39c18b4760c21ead6e2f6d5dff83f7d0214ae", func := "continuo/continuolaw03.MatrixApplies", spec := "matrixApplies", unfollowed := true, recurses := true, apart := false }
def MatrixAppliesSaid : Prop := matrixAppliesRow.holds Try.pinned (OpenSpec.ofChange matrixAppliesSpec)

/-- ITS FALSE NEIGHBOUR: 'it returns false'. Refute it at one input. -/
def matrixAppliesWrong : ChangeSpec := { name := "matrixApplies", fn := fun _ => fun
  | [d1, d2] => { results := [.lit (.bool false)], args := [d1, d2] }
  | _ => none }
def MatrixAppliesWrongFalsely : Prop := matrixAppliesRow.holds Try.pinned (OpenSpec.ofChange matrixAppliesWrong)

/- THE SECOND FORM. 'bulk': how many values and letters a reading holds, each counted each time it is reached (what is shared counts as often as it is met; a slice's spare places count too). A statement '..UptoSaid' is the law's where the arguments, and the package variables that the reading takes, are together of bulk at most 1048576: NARROWER than '..Said'. Prove '..Said' where nothing that the law and all that it calls make is longer than what came in: it says more and counts as full. Else prove '..UptoSaid'. A law counts once. -/
mutual
def uptoBulk {H : Type} : DataW H → Nat
  | .lit (.string bytes) => bytes.length + 1
  | .lit _ => 1
  | .nil => 1
  | .ptr d => uptoBulk d + 1
  | .slice elems spare => uptoBulkAll elems + uptoBulkAll spare + 1
  | .agg parts => uptoBulkAll parts + 1
  | .iface _ d => uptoBulk d + 1
  | .map entries => uptoBulkEntries entries + 1
  | .held _ => 1
def uptoBulkAll {H : Type} : List (DataW H) → Nat
  | [] => 0
  | d :: r => uptoBulk d + uptoBulkAll r
def uptoBulkEntries {H : Type} : List (Lit × DataW H) → Nat
  | [] => 0
  | x :: r => uptoBulkEntry x + uptoBulkEntries r
def uptoBulkEntry {H : Type} : Lit × DataW H → Nat
  | (.string bytes, d) => bytes.length + uptoBulk d + 1
  | (_, d) => uptoBulk d + 1
 end
def uptoSmall : (H : Type) → List (DataW H) → Bool := fun _ ds => decide (uptoBulkAll ds ≤ 1048576)
def OpenSpec.upto (s : _root_.Go.ChangeSpec) : _root_.Go.OpenSpec := { _root_.Go.OpenSpec.ofChange s with cond := some uptoSmall }

/-- 'continuolaw03.MatrixJoins', WHERE WHAT IT READS IS OF BULK AT MOST 1048576: true; the input reads as it did. -/
def matrixJoinsUptoRow : OpenClaim := { program := "ythadnbgkmfacmaa", sum := "54203cd5a1e653142bf8989c45c39c18b4760c21ead6e2f6d5dff83f7d0214ae", func := "continuo/continuolaw03.MatrixJoins", spec := "matrixJoins", unfollowed := true, recurses := true, apart := false, narrowed := true }
def MatrixJoinsUptoSaid : Prop := matrixJoinsUptoRow.holds Try.pinned (OpenSpec.upto matrixJoinsSpec)

/-- 'continuolaw03.MatrixNormal', WHERE WHAT IT READS IS OF BULK AT MOST 1048576: true; the input reads as it did. -/
def matrixNormalUptoRow : OpenClaim := { program := "ythadnbgkmfacmaa", sum := "54203cd5a1e653142bf8989c45c39c18b4760c21ead6e2f6d5dff83f7d0214ae", func := "continuo/continuolaw03.MatrixNormal", spec := "matrixNormal", unfollowed := true, recurses := true, apart := false, narrowed := true }
def MatrixNormalUptoSaid : Prop := matrixNormalUptoRow.holds Try.pinned (OpenSpec.upto matrixNormalSpec)

/-- 'continuolaw03.LayoutBetween', WHERE WHAT IT READS IS OF BULK AT MOST 1048576: true; the input reads as it did. -/
def layoutBetweenUptoRow : OpenClaim := { program := "ythadnbgkmfacmaa", sum := "54203cd5a1e653142bf8989c45c39c18b4760c21ead6e2f6d5dff83f7d0214ae", func := "continuo/continuolaw03.LayoutBetween", spec := "layoutBetween", unfollowed := true, recurses := true, apart := false, narrowed := true }
def LayoutBetweenUptoSaid : Prop := layoutBetweenUptoRow.holds Try.pinned (OpenSpec.upto layoutBetweenSpec)

/-- 'continuolaw03.LayoutUsual', WHERE WHAT IT READS IS OF BULK AT MOST 1048576: true; the input reads as it did. -/
def layoutUsualUptoRow : OpenClaim := { program := "ythadnbgkmfacmaa", sum := "54203cd5a1e653142bf8989c45c39c18b4760c21ead6e2f6d5dff83f7d0214ae", func := "continuo/continuolaw03.LayoutUsual", spec := "layoutUsual", unfollowed := true, recurses := true, apart := false, narrowed := true }
def LayoutUsualUptoSaid : Prop := layoutUsualUptoRow.holds Try.pinned (OpenSpec.upto layoutUsualSpec)

/-- 'continuolaw03.MatrixApplies', WHERE WHAT IT READS IS OF BULK AT MOST 1048576: true; the input reads as it did. -/
def matrixAppliesUptoRow : OpenClaim := { program := "ythadnbgkmfacmaa", sum := "54203cd5a1e653142bf8989c45c39c18b4760c21ead6e2f6d5dff83f7d0214ae", func := "continuo/continuolaw03.MatrixApplies", spec := "matrixApplies", unfollowed := true, recurses := true, apart := false, narrowed := true }
def MatrixAppliesUptoSaid : Prop := matrixAppliesUptoRow.holds Try.pinned (OpenSpec.upto matrixAppliesSpec)

end Rows
end Go.Proofs.Ythadnbgkmfacmaa
