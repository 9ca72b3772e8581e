/- What the functions that FnZeckendorf reaches compute, each as a Lean function, with the proof that the Go code computes it (written by our driver round the kit's printer, partly by hand). No conditions. -/
import Derived.Test.YtgdjjghdjpaofaaProg
import Derived.Below
import Derived.Deep.Draws
import Derived.Deep.AppendLies
import Derived.Maps.AppendAt
import Derived.OwnWalk
import Derived.Laws.BytesArg
import Derived.Laws.MakeOwn
import Derived.Laws.OwnMore
import Derived.Deep.OwnRows
import Derived.Tactics
import Derived.Lib.ConvBytes
import Derived.Laws.Slices
import Derived.WalkKit
import Derived.KernelRfl
import Derived.RowKit3
import Derived.Deep.LoopGhost
import Derived.Deep.QuietTactic
import Derived.BigQuiet
import Derived.WideLaws
import Derived.Deep.DeepCutAuto
import Derived.Deep.CutBlock
import Derived.Deep.RegionHeld3
import Derived.Laws.Rows
import Derived.Lib.AppendStr
import Derived.ArgAppend
import Derived.Laws.IdiomCopy
import Derived.OrdersHeld
import Derived.Laws.BitsLemmas
import Derived.RowKit
import Derived.Test.YtgdjjghdjpaofaaShIndex
import Derived.Test.YtgdjjghdjpaofaaWWords
import Derived.Test.YtgdjjghdjpaofaaWLast
import Derived.Test.YtgdjjghdjpaofaaWTab
import Derived.Test.YtgdjjghdjpaofaaWFour
import Derived.Test.YtgdjjghdjpaofaaWQPut
import Derived.Test.YtgdjjghdjpaofaaWApart
import Derived.Test.YtgdjjghdjpaofaaWArr
import Derived.Test.YtgdjjghdjpaofaaWZeros
import Derived.Test.YtgdjjghdjpaofaaWFoot
import Derived.Test.YtgdjjghdjpaofaaWKept
import Derived.Test.YtgdjjghdjpaofaaWShare
import Derived.Test.YtgdjjghdjpaofaaWN
import Derived.Test.YtgdjjghdjpaofaaWFootNe
import Derived.Test.YtgdjjghdjpaofaaWAt
import Derived.Test.YtgdjjghdjpaofaaWEqStruct
import Derived.Test.YtgdjjghdjpaofaaWRepsOne
import Derived.Test.YtgdjjghdjpaofaaWInv
import Derived.Test.YtgdjjghdjpaofaaWInvWords
import Derived.Test.YtgdjjghdjpaofaaWGuard
import Derived.Test.YtgdjjghdjpaofaaWNEv
import Derived.Test.YtgdjjghdjpaofaaWMore
namespace Go.Proofs.Ytgdjjghdjpaofaa.PFnZeckendorf
open Go.RowKit Go.Proofs.YtgdjjghdjpaofaaW.PrintWords Go.Proofs.YtgdjjghdjpaofaaW.PrintLast Go.Proofs.YtgdjjghdjpaofaaW.PrintMore
attribute [local go_sem] max2_int min2_int max_two min_two max_three min_three max_four min_four   -- for this text's walks alone
set_option linter.unusedVariables false
set_option linter.unusedSimpArgs false



def errW : Option Int → Value
  | none => .nilIface
  | some c => .iface 0 (.int .i64 c)
theorem errW_none : errW none = .nilIface := rfl
theorem errW_some (c : Int) : errW (some c) = .iface 0 (.int .i64 c) := rfl

theorem info3 : (Try.prog.info? 3).map (fun i => (i.zero, i.size, i.bytes)) = some (some (.int .i64 0), 1, 8) := by kernel_rfl
theorem info5 : (Try.prog.info? 5).map (fun i => (i.zero, i.size, i.bytes)) = some (some (.int .u8 0), 1, 1) := by kernel_rfl
-- the values' own types

end Go.Proofs.Ytgdjjghdjpaofaa.PFnZeckendorf
