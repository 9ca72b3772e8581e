/- What the functions that FnAnyFew reaches compute, each as a Lean function, with the proof that the Go code computes it (written by our driver round the kit's printer, partly by hand). No conditions. -/
import Derived.Test.YtgdjjghdjpaofaaPFnAnyFewx0
import Derived.Test.YtgdjjghdjpaofaaPFnAnyFewx1
import Derived.Test.YtgdjjghdjpaofaaPFnAnyFewx2
import Derived.Test.YtgdjjghdjpaofaaPFnAnyFewx3
import Derived.Test.YtgdjjghdjpaofaaPFnAnyFewx4
import Derived.Test.YtgdjjghdjpaofaaPFnAnyFewx5
import Derived.Test.YtgdjjghdjpaofaaPFnAnyFewx6
import Derived.Test.YtgdjjghdjpaofaaPFnAnyFewx7
import Derived.Test.YtgdjjghdjpaofaaPFnAnyFewx8
import Derived.Test.YtgdjjghdjpaofaaPFnAnyFewx9
import Derived.Test.YtgdjjghdjpaofaaPFnAnyFewx10
import Derived.Test.YtgdjjghdjpaofaaPFnAnyFewx11
import Derived.Test.YtgdjjghdjpaofaaPFnAnyFewx12
import Derived.Test.YtgdjjghdjpaofaaPFnAnyFewx13
namespace Go.Proofs.Ytgdjjghdjpaofaa.PFnAnyFew
open Go.RowKit Go.Proofs.YtgdjjghdjpaofaaW.PrintWords Go.Proofs.YtgdjjghdjpaofaaW.PrintLast Go.Proofs.YtgdjjghdjpaofaaW.PrintMore
attribute [local go_sem] max2_int min2_int max_two min_two max_three min_three max_four min_four   -- for this text's walks alone
set_option linter.unusedVariables false
set_option linter.unusedSimpArgs false

end Go.Proofs.Ytgdjjghdjpaofaa.PFnAnyFew
