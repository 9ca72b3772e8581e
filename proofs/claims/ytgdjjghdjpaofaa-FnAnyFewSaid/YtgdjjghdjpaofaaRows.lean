/-
  No cell of these rows narrows 'for every input' (looked for: loops, veiled, ifaces, maps, wideKeys, modest, calm, conditions, laid).
  DERIVED. THE GIVEN ROWS OF THIS SEAT. 8 by the template 'for every input the law returns true; each argument reads behind the call as it read before'; 0 by the template 'total and deterministic' (their statements: YtgdjjghdjpaofaaTotals.lean).
  GIVEN WITH THE SEED: the statements are not yours to turn. If you find one false, say at which input.
  Laid BY PROGRAM, IN A SANDBOX (cutbox-rows.mjs): the forced cells as the released guide's own fill.sh prints them over the translation 15a13ebac29ab39c… (all of the seat's roots in one cut). By AI agents, Wed Nov 11 2026. No macro, syntax, notation, axiom, sorry.
-/
import Derived.Test.YtgdjjghdjpaofaaChecked
import GoSem.Claim
import GoSem.ClaimJoined
import GoSem.ClaimMapViews
import Derived.JoinedTies
import Derived.KernelRfl
namespace Go.Proofs.Ytgdjjghdjpaofaa
/- THE CELL 'sum', in the pinned program and in every row, IS THE sha256 OF THE DUMP (.gsa) THAT YtgdjjghdjpaofaaProg.lean LOADS. Nothing in Lean hashes anything: it is a label: what it is worth is what the hold of that sum in a sandbox is worth. -/
noncomputable def Try.pinned : Pinned := { name := "ytgdjjghdjpaofaa", sum := "15a13ebac29ab39cd45b3e02f9c8584f8750220dddddeb3fc9c1c843c092a6e8", checked := Try.checked }
namespace Rows
def none {H : Type} : Left H := { results := [], args := [] }

/-- 'laws.FnMerged': WHATEVER THE INPUT: true; the input reads as it did. -/
def fnMergedSpec : ChangeSpec := { name := "fnMerged", fn := fun _ => fun
  | [d1, d2] => { results := [.lit (.bool true)], args := [d1, d2] }
  | _ => none }
def fnMergedRow : OpenClaim := { program := "ytgdjjghdjpaofaa", sum := "15a13ebac29ab39cd45b3e02f9c8584f8750220dddddeb3fc9c1c843c092a6e8", func := "loop.example/g00294/laws.FnMerged", spec := "fnMerged", unfollowed := true, recurses := true, apart := false }
def FnMergedSaid : Prop := fnMergedRow.holds Try.pinned (OpenSpec.ofChange fnMergedSpec)

/-- ITS FALSE NEIGHBOUR: 'it returns false'. Refute it at one input. -/
def fnMergedWrong : ChangeSpec := { name := "fnMerged", fn := fun _ => fun
  | [d1, d2] => { results := [.lit (.bool false)], args := [d1, d2] }
  | _ => none }
def FnMergedWrongFalsely : Prop := fnMergedRow.holds Try.pinned (OpenSpec.ofChange fnMergedWrong)

/-- 'laws.FnAnyFew': WHATEVER THE INPUT: true; the input reads as it did. -/
def fnAnyFewSpec : ChangeSpec := { name := "fnAnyFew", fn := fun _ => fun
  | [d1, d2] => { results := [.lit (.bool true)], args := [d1, d2] }
  | _ => none }
def fnAnyFewRow : OpenClaim := { program := "ytgdjjghdjpaofaa", sum := "15a13ebac29ab39cd45b3e02f9c8584f8750220dddddeb3fc9c1c843c092a6e8", func := "loop.example/g00294/laws.FnAnyFew", spec := "fnAnyFew", unfollowed := true, recurses := true, apart := false }
def FnAnyFewSaid : Prop := fnAnyFewRow.holds Try.pinned (OpenSpec.ofChange fnAnyFewSpec)

/-- ITS FALSE NEIGHBOUR: 'it returns false'. Refute it at one input. -/
def fnAnyFewWrong : ChangeSpec := { name := "fnAnyFew", fn := fun _ => fun
  | [d1, d2] => { results := [.lit (.bool false)], args := [d1, d2] }
  | _ => none }
def FnAnyFewWrongFalsely : Prop := fnAnyFewRow.holds Try.pinned (OpenSpec.ofChange fnAnyFewWrong)

/-- 'laws.FnZeckendorf': WHATEVER THE INPUT: true; the input reads as it did. -/
def fnZeckendorfSpec : ChangeSpec := { name := "fnZeckendorf", fn := fun _ => fun
  | [d1, d2] => { results := [.lit (.bool true)], args := [d1, d2] }
  | _ => none }
def fnZeckendorfRow : OpenClaim := { program := "ytgdjjghdjpaofaa", sum := "15a13ebac29ab39cd45b3e02f9c8584f8750220dddddeb3fc9c1c843c092a6e8", func := "loop.example/g00294/laws.FnZeckendorf", spec := "fnZeckendorf", inPlace := ["internal/bytealg.IndexByteString", "internal/bytealg.IndexString"], recurses := true, named := ["internal/bytealg.MaxLen"], apart := false }
def FnZeckendorfSaid : Prop := fnZeckendorfRow.holds Try.pinned (OpenSpec.ofChange fnZeckendorfSpec)

/-- ITS FALSE NEIGHBOUR: 'it returns false'. Refute it at one input. -/
def fnZeckendorfWrong : ChangeSpec := { name := "fnZeckendorf", fn := fun _ => fun
  | [d1, d2] => { results := [.lit (.bool false)], args := [d1, d2] }
  | _ => none }
def FnZeckendorfWrongFalsely : Prop := fnZeckendorfRow.holds Try.pinned (OpenSpec.ofChange fnZeckendorfWrong)

/-- 'laws.FnExactPartsFor': WHATEVER THE INPUT: true; the input reads as it did. -/
def fnExactPartsForSpec : ChangeSpec := { name := "fnExactPartsFor", fn := fun _ => fun
  | [d1, d2] => { results := [.lit (.bool true)], args := [d1, d2] }
  | _ => none }
def fnExactPartsForRow : OpenClaim := { program := "ytgdjjghdjpaofaa", sum := "15a13ebac29ab39cd45b3e02f9c8584f8750220dddddeb3fc9c1c843c092a6e8", func := "loop.example/g00294/laws.FnExactPartsFor", spec := "fnExactPartsFor", inPlace := ["internal/abi.NoEscape", "internal/bytealg.MakeNoZero"], unfollowed := true, recurses := true, apart := false }
def FnExactPartsForSaid : Prop := fnExactPartsForRow.holds Try.pinned (OpenSpec.ofChange fnExactPartsForSpec)

/-- ITS FALSE NEIGHBOUR: 'it returns false'. Refute it at one input. -/
def fnExactPartsForWrong : ChangeSpec := { name := "fnExactPartsFor", fn := fun _ => fun
  | [d1, d2] => { results := [.lit (.bool false)], args := [d1, d2] }
  | _ => none }
def FnExactPartsForWrongFalsely : Prop := fnExactPartsForRow.holds Try.pinned (OpenSpec.ofChange fnExactPartsForWrong)

/-- 'laws.FnLocal': WHATEVER THE INPUT: true; the input reads as it did. -/
def fnLocalSpec : ChangeSpec := { name := "fnLocal", fn := fun _ => fun
  | [d1, d2] => { results := [.lit (.bool true)], args := [d1, d2] }
  | _ => none }
def fnLocalRow : OpenClaim := { program := "ytgdjjghdjpaofaa", sum := "15a13ebac29ab39cd45b3e02f9c8584f8750220dddddeb3fc9c1c843c092a6e8", func := "loop.example/g00294/laws.FnLocal", spec := "fnLocal", unfollowed := true, recurses := true, apart := false }
def FnLocalSaid : Prop := fnLocalRow.holds Try.pinned (OpenSpec.ofChange fnLocalSpec)

/-- ITS FALSE NEIGHBOUR: 'it returns false'. Refute it at one input. -/
def fnLocalWrong : ChangeSpec := { name := "fnLocal", fn := fun _ => fun
  | [d1, d2] => { results := [.lit (.bool false)], args := [d1, d2] }
  | _ => none }
def FnLocalWrongFalsely : Prop := fnLocalRow.holds Try.pinned (OpenSpec.ofChange fnLocalWrong)

/-- 'laws.FnMended': WHATEVER THE INPUT: true; the input reads as it did. -/
def fnMendedSpec : ChangeSpec := { name := "fnMended", fn := fun _ => fun
  | [d1, d2] => { results := [.lit (.bool true)], args := [d1, d2] }
  | _ => none }
def fnMendedRow : OpenClaim := { program := "ytgdjjghdjpaofaa", sum := "15a13ebac29ab39cd45b3e02f9c8584f8750220dddddeb3fc9c1c843c092a6e8", func := "loop.example/g00294/laws.FnMended", spec := "fnMended", unfollowed := true, recurses := true, apart := false }
def FnMendedSaid : Prop := fnMendedRow.holds Try.pinned (OpenSpec.ofChange fnMendedSpec)

/-- ITS FALSE NEIGHBOUR: 'it returns false'. Refute it at one input. -/
def fnMendedWrong : ChangeSpec := { name := "fnMended", fn := fun _ => fun
  | [d1, d2] => { results := [.lit (.bool false)], args := [d1, d2] }
  | _ => none }
def FnMendedWrongFalsely : Prop := fnMendedRow.holds Try.pinned (OpenSpec.ofChange fnMendedWrong)

/-- 'laws.FnDecided': WHATEVER THE INPUT: true; the input reads as it did. -/
def fnDecidedSpec : ChangeSpec := { name := "fnDecided", fn := fun _ => fun
  | [d1, d2] => { results := [.lit (.bool true)], args := [d1, d2] }
  | _ => none }
def fnDecidedRow : OpenClaim := { program := "ytgdjjghdjpaofaa", sum := "15a13ebac29ab39cd45b3e02f9c8584f8750220dddddeb3fc9c1c843c092a6e8", func := "loop.example/g00294/laws.FnDecided", spec := "fnDecided", unfollowed := true, recurses := true, apart := false }
def FnDecidedSaid : Prop := fnDecidedRow.holds Try.pinned (OpenSpec.ofChange fnDecidedSpec)

/-- ITS FALSE NEIGHBOUR: 'it returns false'. Refute it at one input. -/
def fnDecidedWrong : ChangeSpec := { name := "fnDecided", fn := fun _ => fun
  | [d1, d2] => { results := [.lit (.bool false)], args := [d1, d2] }
  | _ => none }
def FnDecidedWrongFalsely : Prop := fnDecidedRow.holds Try.pinned (OpenSpec.ofChange fnDecidedWrong)

/-- 'laws.FnRebuilt': WHATEVER THE INPUT: true; the input reads as it did. -/
def fnRebuiltSpec : ChangeSpec := { name := "fnRebuilt", fn := fun _ => fun
  | [d1, d2] => { results := [.lit (.bool true)], args := [d1, d2] }
  | _ => none }
def fnRebuiltRow : OpenClaim := { program := "ytgdjjghdjpaofaa", sum := "15a13ebac29ab39cd45b3e02f9c8584f8750220dddddeb3fc9c1c843c092a6e8", func := "loop.example/g00294/laws.FnRebuilt", spec := "fnRebuilt", inPlace := ["internal/abi.NoEscape", "internal/bytealg.MakeNoZero"], unfollowed := true, recurses := true, apart := false }
def FnRebuiltSaid : Prop := fnRebuiltRow.holds Try.pinned (OpenSpec.ofChange fnRebuiltSpec)

/-- ITS FALSE NEIGHBOUR: 'it returns false'. Refute it at one input. -/
def fnRebuiltWrong : ChangeSpec := { name := "fnRebuilt", fn := fun _ => fun
  | [d1, d2] => { results := [.lit (.bool false)], args := [d1, d2] }
  | _ => none }
def FnRebuiltWrongFalsely : Prop := fnRebuiltRow.holds Try.pinned (OpenSpec.ofChange fnRebuiltWrong)

/- THE SECOND FORM. 'bulk': how many values and letters a reading holds, each counted each time it is reached (what is shared counts as often as it is met; a slice's spare places count too). A statement '..UptoSaid' is the law's where the arguments, and the package variables that the reading takes, are together of bulk at most 1048576: NARROWER than '..Said'. Prove '..Said' where nothing that the law and all that it calls make is longer than what came in: it says more and counts as full. Else prove '..UptoSaid'. A law counts once. -/
mutual
def uptoBulk {H : Type} : DataW H → Nat
  | .lit (.string bytes) => bytes.length + 1
  | .lit _ => 1
  | .nil => 1
  | .ptr d => uptoBulk d + 1
  | .slice elems spare => uptoBulkAll elems + uptoBulkAll spare + 1
  | .agg parts => uptoBulkAll parts + 1
  | .iface _ d => uptoBulk d + 1
  | .map entries => uptoBulkEntries entries + 1
  | .held _ => 1
def uptoBulkAll {H : Type} : List (DataW H) → Nat
  | [] => 0
  | d :: r => uptoBulk d + uptoBulkAll r
def uptoBulkEntries {H : Type} : List (Lit × DataW H) → Nat
  | [] => 0
  | x :: r => uptoBulkEntry x + uptoBulkEntries r
def uptoBulkEntry {H : Type} : Lit × DataW H → Nat
  | (.string bytes, d) => bytes.length + uptoBulk d + 1
  | (_, d) => uptoBulk d + 1
 end
def uptoSmall : (H : Type) → List (DataW H) → Bool := fun _ ds => decide (uptoBulkAll ds ≤ 1048576)
def OpenSpec.upto (s : _root_.Go.ChangeSpec) : _root_.Go.OpenSpec := { _root_.Go.OpenSpec.ofChange s with cond := some uptoSmall }

/-- 'laws.FnMerged', WHERE WHAT IT READS IS OF BULK AT MOST 1048576: true; the input reads as it did. -/
def fnMergedUptoRow : OpenClaim := { program := "ytgdjjghdjpaofaa", sum := "15a13ebac29ab39cd45b3e02f9c8584f8750220dddddeb3fc9c1c843c092a6e8", func := "loop.example/g00294/laws.FnMerged", spec := "fnMerged", unfollowed := true, recurses := true, apart := false, narrowed := true }
def FnMergedUptoSaid : Prop := fnMergedUptoRow.holds Try.pinned (OpenSpec.upto fnMergedSpec)

/-- 'laws.FnAnyFew', WHERE WHAT IT READS IS OF BULK AT MOST 1048576: true; the input reads as it did. -/
def fnAnyFewUptoRow : OpenClaim := { program := "ytgdjjghdjpaofaa", sum := "15a13ebac29ab39cd45b3e02f9c8584f8750220dddddeb3fc9c1c843c092a6e8", func := "loop.example/g00294/laws.FnAnyFew", spec := "fnAnyFew", unfollowed := true, recurses := true, apart := false, narrowed := true }
def FnAnyFewUptoSaid : Prop := fnAnyFewUptoRow.holds Try.pinned (OpenSpec.upto fnAnyFewSpec)

/-- 'laws.FnZeckendorf', WHERE WHAT IT READS IS OF BULK AT MOST 1048576: true; the input reads as it did. -/
def fnZeckendorfUptoRow : OpenClaim := { program := "ytgdjjghdjpaofaa", sum := "15a13ebac29ab39cd45b3e02f9c8584f8750220dddddeb3fc9c1c843c092a6e8", func := "loop.example/g00294/laws.FnZeckendorf", spec := "fnZeckendorf", inPlace := ["internal/bytealg.IndexByteString", "internal/bytealg.IndexString"], recurses := true, named := ["internal/bytealg.MaxLen"], apart := false, narrowed := true }
def FnZeckendorfUptoSaid : Prop := fnZeckendorfUptoRow.holds Try.pinned (OpenSpec.upto fnZeckendorfSpec)

/-- 'laws.FnExactPartsFor', WHERE WHAT IT READS IS OF BULK AT MOST 1048576: true; the input reads as it did. -/
def fnExactPartsForUptoRow : OpenClaim := { program := "ytgdjjghdjpaofaa", sum := "15a13ebac29ab39cd45b3e02f9c8584f8750220dddddeb3fc9c1c843c092a6e8", func := "loop.example/g00294/laws.FnExactPartsFor", spec := "fnExactPartsFor", inPlace := ["internal/abi.NoEscape", "internal/bytealg.MakeNoZero"], unfollowed := true, recurses := true, apart := false, narrowed := true }
def FnExactPartsForUptoSaid : Prop := fnExactPartsForUptoRow.holds Try.pinned (OpenSpec.upto fnExactPartsForSpec)

/-- 'laws.FnLocal', WHERE WHAT IT READS IS OF BULK AT MOST 1048576: true; the input reads as it did. -/
def fnLocalUptoRow : OpenClaim := { program := "ytgdjjghdjpaofaa", sum := "15a13ebac29ab39cd45b3e02f9c8584f8750220dddddeb3fc9c1c843c092a6e8", func := "loop.example/g00294/laws.FnLocal", spec := "fnLocal", unfollowed := true, recurses := true, apart := false, narrowed := true }
def FnLocalUptoSaid : Prop := fnLocalUptoRow.holds Try.pinned (OpenSpec.upto fnLocalSpec)

/-- 'laws.FnMended', WHERE WHAT IT READS IS OF BULK AT MOST 1048576: true; the input reads as it did. -/
def fnMendedUptoRow : OpenClaim := { program := "ytgdjjghdjpaofaa", sum := "15a13ebac29ab39cd45b3e02f9c8584f8750220dddddeb3fc9c1c843c092a6e8", func := "loop.example/g00294/laws.FnMended", spec := "fnMended", unfollowed := true, recurses := true, apart := false, narrowed := true }
def FnMendedUptoSaid : Prop := fnMendedUptoRow.holds Try.pinned (OpenSpec.upto fnMendedSpec)

/-- 'laws.FnDecided', WHERE WHAT IT READS IS OF BULK AT MOST 1048576: true; the input reads as it did. -/
def fnDecidedUptoRow : OpenClaim := { program := "ytgdjjghdjpaofaa", sum := "15a13ebac29ab39cd45b3e02f9c8584f8750220dddddeb3fc9c1c843c092a6e8", func := "loop.example/g00294/laws.FnDecided", spec := "fnDecided", unfollowed := true, recurses := true, apart := false, narrowed := true }
def FnDecidedUptoSaid : Prop := fnDecidedUptoRow.holds Try.pinned (OpenSpec.upto fnDecidedSpec)

/-- 'laws.FnRebuilt', WHERE WHAT IT READS IS OF BULK AT MOST 1048576: true; the input reads as it did. -/
def fnRebuiltUptoRow : OpenClaim := { program := "ytgdjjghdjpaofaa", sum := "15a13ebac29ab39cd45b3e02f9c8584f8750220dddddeb3fc9c1c843c092a6e8", func := "loop.example/g00294/laws.FnRebuilt", spec := "fnRebuilt", inPlace := ["internal/abi.NoEscape", "internal/bytealg.MakeNoZero"], unfollowed := true, recurses := true, apart := false, narrowed := true }
def FnRebuiltUptoSaid : Prop := fnRebuiltUptoRow.holds Try.pinned (OpenSpec.upto fnRebuiltSpec)

end Rows
end Go.Proofs.Ytgdjjghdjpaofaa
