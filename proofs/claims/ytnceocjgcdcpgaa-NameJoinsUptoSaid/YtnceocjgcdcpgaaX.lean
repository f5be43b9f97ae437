-- PRINTED by print.py (a twelfth state) out of the translation. Not trusted: Lean checks it.
import Derived.Test.YtnceocjgcdcpgaaX0
import Derived.Test.YtnceocjgcdcpgaaX1
import Derived.Test.YtnceocjgcdcpgaaX2
import Derived.Test.YtnceocjgcdcpgaaX3
import Derived.Test.YtnceocjgcdcpgaaX4
import Derived.Test.YtnceocjgcdcpgaaX5
namespace Go.Proofs.Ytnceocjgcdcpgaa.X
open Go.RowKit Go.Proofs.YtnceocjgcdcpgaaW.PrintWords Go.Proofs.YtnceocjgcdcpgaaW.PrintLast Go.Proofs.YtnceocjgcdcpgaaW.PrintMore
attribute [local go_sem] max2_int min2_int max_two min_two max_three min_three max_four min_four   -- for this text's walks alone
set_option linter.unusedVariables false
set_option linter.unusedSimpArgs false

end Go.Proofs.Ytnceocjgcdcpgaa.X
