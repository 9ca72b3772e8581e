/- What the functions that FnExactPartsFor reaches compute, each as a Lean function, with the proof that the Go code computes it (written by our driver round the kit's printer, partly by hand). No conditions. -/
import Derived.Test.YtgdjjghdjpaofaaPFnExactPartsForx0
import Derived.Test.YtgdjjghdjpaofaaPFnExactPartsForx1
import Derived.Test.YtgdjjghdjpaofaaPFnExactPartsForx2
import Derived.Test.YtgdjjghdjpaofaaPFnExactPartsForx3
import Derived.Test.YtgdjjghdjpaofaaPFnExactPartsForx4
import Derived.Test.YtgdjjghdjpaofaaPFnExactPartsForx5
import Derived.Test.YtgdjjghdjpaofaaPFnExactPartsForx6
import Derived.Test.YtgdjjghdjpaofaaPFnExactPartsForx7
import Derived.Test.YtgdjjghdjpaofaaPFnExactPartsForx8
import Derived.Test.YtgdjjghdjpaofaaPFnExactPartsForx9
import Derived.Test.YtgdjjghdjpaofaaPFnExactPartsForx10
namespace Go.Proofs.Ytgdjjghdjpaofaa.PFnExactPartsFor
open Go.RowKit Go.Proofs.YtgdjjghdjpaofaaW.PrintWords Go.Proofs.YtgdjjghdjpaofaaW.PrintLast Go.Proofs.YtgdjjghdjpaofaaW.PrintMore
attribute [local go_sem] max2_int min2_int max_two min_two max_three min_three max_four min_four   -- for this text's walks alone
set_option linter.unusedVariables false
set_option linter.unusedSimpArgs false

end Go.Proofs.Ytgdjjghdjpaofaa.PFnExactPartsFor
