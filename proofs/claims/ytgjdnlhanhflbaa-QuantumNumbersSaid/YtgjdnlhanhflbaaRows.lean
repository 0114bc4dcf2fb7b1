/-
  No cell of these rows narrows 'for every input' (looked for: loops, veiled, ifaces, maps, wideKeys, modest, calm, conditions, laid).
  DERIVED. THE GIVEN ROWS OF THIS SEAT. 4 by the template 'for every input the law returns true; each argument reads behind the call as it read before'; 0 by the template 'total and deterministic' (their statements: YtgjdnlhanhflbaaTotals.lean).
  GIVEN WITH THE SEED: the statements are not yours to turn. If you find one false, say at which input.
  Laid BY PROGRAM, IN A SANDBOX (cutbox-rows.mjs): the forced cells as the released guide's own fill.sh prints them over the translation 63ec91067731f4d4… (all of the seat's roots in one cut). By AI agents, Wed Nov 11 2026. No macro, syntax, notation, axiom, sorry.
-/
import Derived.Test.YtgjdnlhanhflbaaChecked
import GoSem.Claim
import GoSem.ClaimJoined
import GoSem.ClaimMapViews
import Derived.JoinedTies
import Derived.KernelRfl
namespace Go.Proofs.Ytgjdnlhanhflbaa
/- THE CELL 'sum', in the pinned program and in every row, IS THE sha256 OF THE DUMP (.gsa) THAT YtgjdnlhanhflbaaProg.lean LOADS. Nothing in Lean hashes anything: it is a label: what it is worth is what the hold of that sum in a sandbox is worth. -/
noncomputable def Try.pinned : Pinned := { name := "ytgjdnlhanhflbaa", sum := "63ec91067731f4d461a5f6f8284c8864d89ce5d2025035bcb0386194fb7f35d9", checked := Try.checked }
namespace Rows
def none {H : Type} : Left H := { results := [], args := [] }

/-- 'continuolaw14.QuantumNumbers': WHATEVER THE INPUT: true; the input reads as it did. -/
def quantumNumbersSpec : ChangeSpec := { name := "quantumNumbers", fn := fun _ => fun
  | [d1, d2, d3] => { results := [.lit (.bool true)], args := [d1, d2, d3] }
  | _ => none }
def quantumNumbersRow : OpenClaim := { program := "ytgjdnlhanhflbaa", sum := "63ec91067731f4d461a5f6f8284c8864d89ce5d2025035bcb0386194fb7f35d9", func := "continuo/continuolaw14.QuantumNumbers", spec := "quantumNumbers", unfollowed := true, recurses := true, apart := false }
def QuantumNumbersSaid : Prop := quantumNumbersRow.holds Try.pinned (OpenSpec.ofChange quantumNumbersSpec)

/-- ITS FALSE NEIGHBOUR: 'it returns false'. Refute it at one input. -/
def quantumNumbersWrong : ChangeSpec := { name := "quantumNumbers", fn := fun _ => fun
  | [d1, d2, d3] => { results := [.lit (.bool false)], args := [d1, d2, d3] }
  | _ => none }
def QuantumNumbersWrongFalsely : Prop := quantumNumbersRow.holds Try.pinned (OpenSpec.ofChange quantumNumbersWrong)

/-- 'continuolaw14.QuantumGroups': WHATEVER THE INPUT: true; the input reads as it did. -/
def quantumGroupsSpec : ChangeSpec := { name := "quantumGroups", fn := fun _ => fun
  | [d1, d2, d3, d4, d5] => { results := [.lit (.bool true)], args := [d1, d2, d3, d4, d5] }
  | _ => none }
def quantumGroupsRow : OpenClaim := { program := "ytgjdnlhanhflbaa", sum := "63ec91067731f4d461a5f6f8284c8864d89ce5d2025035bcb0386194fb7f35d9", func := "continuo/continuolaw14.QuantumGroups", spec := "quantumGroups", unfollowed := true, recurses := true, apart := false }
def QuantumGroupsSaid : Prop := quantumGroupsRow.holds Try.pinned (OpenSpec.ofChange quantumGroupsSpec)

/-- ITS FALSE NEIGHBOUR: 'it returns false'. Refute it at one input. -/
def quantumGroupsWrong : ChangeSpec := { name := "quantumGroups", fn := fun _ => fun
  | [d1, d2, d3, d4, d5] => { results := [.lit (.bool false)], args := [d1, d2, d3, d4, d5] }
  | _ => none }
def QuantumGroupsWrongFalsely : Prop := quantumGroupsRow.holds Try.pinned (OpenSpec.ofChange quantumGroupsWrong)

/-- 'continuolaw14.QuantumLimits': WHATEVER THE INPUT: true; the input reads as it did. -/
def quantumLimitsSpec : ChangeSpec := { name := "quantumLimits", fn := fun _ => fun
  | [d1, d2] => { results := [.lit (.bool true)], args := [d1, d2] }
  | _ => none }
def quantumLimitsRow : OpenClaim := { program := "ytgjdnlhanhflbaa", sum := "63ec91067731f4d461a5f6f8284c8864d89ce5d2025035bcb0386194fb7f35d9", func := "continuo/continuolaw14.QuantumLimits", spec := "quantumLimits", unfollowed := true, recurses := true, apart := false }
def QuantumLimitsSaid : Prop := quantumLimitsRow.holds Try.pinned (OpenSpec.ofChange quantumLimitsSpec)

/-- ITS FALSE NEIGHBOUR: 'it returns false'. Refute it at one input. -/
def quantumLimitsWrong : ChangeSpec := { name := "quantumLimits", fn := fun _ => fun
  | [d1, d2] => { results := [.lit (.bool false)], args := [d1, d2] }
  | _ => none }
def QuantumLimitsWrongFalsely : Prop := quantumLimitsRow.holds Try.pinned (OpenSpec.ofChange quantumLimitsWrong)

/-- 'continuolaw14.QuantumPlays': WHATEVER THE INPUT: true; the input reads as it did. -/
def quantumPlaysSpec : ChangeSpec := { name := "quantumPlays", fn := fun _ => fun
  | [d1, d2] => { results := [.lit (.bool true)], args := [d1, d2] }
  | _ => none }
def quantumPlaysRow : OpenClaim := { program := "ytgjdnlhanhflbaa", sum := "63ec91067731f4d461a5f6f8284c8864d89ce5d2025035bcb0386194fb7f35d9", func := "continuo/continuolaw14.QuantumPlays", spec := "quantumPlays", unfollowed := true, recurses := true, apart := false }
def QuantumPlaysSaid : Prop := quantumPlaysRow.holds Try.pinned (OpenSpec.ofChange quantumPlaysSpec)

/-- ITS FALSE NEIGHBOUR: 'it returns false'. Refute it at one input. -/
def quantumPlaysWrong : ChangeSpec := { name := "quantumPlays", fn := fun _ => fun
  | [d1, d2] => { results := [.lit (.bool false)], args := [d1, d2] }
  | _ => none }
def QuantumPlaysWrongFalsely : Prop := quantumPlaysRow.holds Try.pinned (OpenSpec.ofChange quantumPlaysWrong)

/- THE SECOND FORM. 'bulk': how many values and letters a reading holds, each counted each time it is reached (what is shared counts as often as it is met; a slice's spare places count too). A statement '..UptoSaid' is the law's where the arguments, and the package variables that the reading takes, are together of bulk at most 1048576: NARROWER than '..Said'. Prove '..Said' where nothing that the law and all that it calls make is longer than what came in: it says more and counts as full. Else prove '..UptoSaid'. A law counts once. -/
mutual
def uptoBulk {H : Type} : DataW H → Nat
  | .lit (.string bytes) => bytes.length + 1
  | .lit _ => 1
  | .nil => 1
  | .ptr d => uptoBulk d + 1
  | .slice elems spare => uptoBulkAll elems + uptoBulkAll spare + 1
  | .agg parts => uptoBulkAll parts + 1
  | .iface _ d => uptoBulk d + 1
  | .map entries => uptoBulkEntries entries + 1
  | .held _ => 1
def uptoBulkAll {H : Type} : List (DataW H) → Nat
  | [] => 0
  | d :: r => uptoBulk d + uptoBulkAll r
def uptoBulkEntries {H : Type} : List (Lit × DataW H) → Nat
  | [] => 0
  | x :: r => uptoBulkEntry x + uptoBulkEntries r
def uptoBulkEntry {H : Type} : Lit × DataW H → Nat
  | (.string bytes, d) => bytes.length + uptoBulk d + 1
  | (_, d) => uptoBulk d + 1
 end
def uptoSmall : (H : Type) → List (DataW H) → Bool := fun _ ds => decide (uptoBulkAll ds ≤ 1048576)
def OpenSpec.upto (s : _root_.Go.ChangeSpec) : _root_.Go.OpenSpec := { _root_.Go.OpenSpec.ofChange s with cond := some uptoSmall }

/-- 'continuolaw14.QuantumNumbers', WHERE WHAT IT READS IS OF BULK AT MOST 1048576: true; the input reads as it did. -/
def quantumNumbersUptoRow : OpenClaim := { program := "ytgjdnlhanhflbaa", sum := "63ec91067731f4d461a5f6f8284c8864d89ce5d2025035bcb0386194fb7f35d9", func := "continuo/continuolaw14.QuantumNumbers", spec := "quantumNumbers", unfollowed := true, recurses := true, apart := false, narrowed := true }
def QuantumNumbersUptoSaid : Prop := quantumNumbersUptoRow.holds Try.pinned (OpenSpec.upto quantumNumbersSpec)

/-- 'continuolaw14.QuantumGroups', WHERE WHAT IT READS IS OF BULK AT MOST 1048576: true; the input reads as it did. -/
def quantumGroupsUptoRow : OpenClaim := { program := "ytgjdnlhanhflbaa", sum := "63ec91067731f4d461a5f6f8284c8864d89ce5d2025035bcb0386194fb7f35d9", func := "continuo/continuolaw14.QuantumGroups", spec := "quantumGroups", unfollowed := true, recurses := true, apart := false, narrowed := true }
def QuantumGroupsUptoSaid : Prop := quantumGroupsUptoRow.holds Try.pinned (OpenSpec.upto quantumGroupsSpec)

/-- 'continuolaw14.QuantumLimits', WHERE WHAT IT READS IS OF BULK AT MOST 1048576: true; the input reads as it did. -/
def quantumLimitsUptoRow : OpenClaim := { program := "ytgjdnlhanhflbaa", sum := "63ec91067731f4d461a5f6f8284c8864d89ce5d2025035bcb0386194fb7f35d9", func := "continuo/continuolaw14.QuantumLimits", spec := "quantumLimits", unfollowed := true, recurses := true, apart := false, narrowed := true }
def QuantumLimitsUptoSaid : Prop := quantumLimitsUptoRow.holds Try.pinned (OpenSpec.upto quantumLimitsSpec)

/-- 'continuolaw14.QuantumPlays', WHERE WHAT IT READS IS OF BULK AT MOST 1048576: true; the input reads as it did. -/
def quantumPlaysUptoRow : OpenClaim := { program := "ytgjdnlhanhflbaa", sum := "63ec91067731f4d461a5f6f8284c8864d89ce5d2025035bcb0386194fb7f35d9", func := "continuo/continuolaw14.QuantumPlays", spec := "quantumPlays", unfollowed := true, recurses := true, apart := false, narrowed := true }
def QuantumPlaysUptoSaid : Prop := quantumPlaysUptoRow.holds Try.pinned (OpenSpec.upto quantumPlaysSpec)

end Rows
end Go.Proofs.Ytgjdnlhanhflbaa
