/- What the functions that FnExactUnpackBits reaches compute, each as a Lean function, with the proof that the Go code computes it (written by our driver round the kit's printer, partly by hand). No conditions. -/
import Derived.Test.YtldnpigmdaabgaaProg
import Derived.Below
import Derived.Deep.Draws
import Derived.Deep.AppendLies
import Derived.Maps.AppendAt
import Derived.OwnWalk
import Derived.Laws.BytesArg
import Derived.Laws.MakeOwn
import Derived.Laws.OwnMore
import Derived.Deep.OwnRows
import Derived.Tactics
import Derived.Lib.ConvBytes
import Derived.Laws.Slices
import Derived.WalkKit
import Derived.KernelRfl
import Derived.RowKit3
import Derived.Deep.LoopGhost
import Derived.Deep.QuietTactic
import Derived.BigQuiet
import Derived.WideLaws
import Derived.Deep.DeepCutAuto
import Derived.Deep.CutBlock
import Derived.Deep.RegionHeld3
import Derived.Laws.Rows
import Derived.Lib.AppendStr
import Derived.ArgAppend
import Derived.Laws.IdiomCopy
import Derived.OrdersHeld
import Derived.Laws.BitsLemmas
import Derived.RowKit
import Derived.Test.YtldnpigmdaabgaaShelf
import Derived.Test.YtldnpigmdaabgaaWWords
import Derived.Test.YtldnpigmdaabgaaWLast
import Derived.Test.YtldnpigmdaabgaaWTab
import Derived.Test.YtldnpigmdaabgaaWFour
import Derived.Test.YtldnpigmdaabgaaWQPut
import Derived.Test.YtldnpigmdaabgaaWApart
import Derived.Test.YtldnpigmdaabgaaWArr
import Derived.Test.YtldnpigmdaabgaaWZeros
import Derived.Test.YtldnpigmdaabgaaWFoot
import Derived.Test.YtldnpigmdaabgaaWKept
import Derived.Test.YtldnpigmdaabgaaWShare
import Derived.Test.YtldnpigmdaabgaaWN
import Derived.Test.YtldnpigmdaabgaaWFootNe
import Derived.Test.YtldnpigmdaabgaaWAt
import Derived.Test.YtldnpigmdaabgaaWEqStruct
import Derived.Test.YtldnpigmdaabgaaWRepsOne
import Derived.Test.YtldnpigmdaabgaaWInv
import Derived.Test.YtldnpigmdaabgaaWInvWords
import Derived.Test.YtldnpigmdaabgaaWGuard
import Derived.Test.YtldnpigmdaabgaaWNEv
import Derived.Test.YtldnpigmdaabgaaWMore
namespace Go.Proofs.Ytldnpigmdaabgaa.PFnExactUnpackBits
open Go.RowKit Go.Proofs.YtldnpigmdaabgaaW.PrintWords Go.Proofs.YtldnpigmdaabgaaW.PrintLast Go.Proofs.YtldnpigmdaabgaaW.PrintMore
attribute [local go_sem] max2_int min2_int max_two min_two max_three min_three max_four min_four   -- for this text's walks alone
set_option linter.unusedVariables false
set_option linter.unusedSimpArgs false



def errW : Option Int → Value
  | none => .nilIface
  | some c => .iface 0 (.int .i64 c)
theorem errW_none : errW none = .nilIface := rfl
theorem errW_some (c : Int) : errW (some c) = .iface 0 (.int .i64 c) := rfl

theorem info5 : (Try.prog.info? 5).map (fun i => (i.zero, i.size, i.bytes)) = some (some (.int .u8 0), 1, 1) := by kernel_rfl
-- the values' own types

end Go.Proofs.Ytldnpigmdaabgaa.PFnExactUnpackBits
