-- PRINTED by print.py (a twelfth state) out of the translation. Not trusted: Lean checks it.
import Derived.Test.YtnceocjgcdcpgaaDoorX0
import Derived.Test.YtnceocjgcdcpgaaDoorX1
import Derived.Test.YtnceocjgcdcpgaaDoorX2
import Derived.Test.YtnceocjgcdcpgaaDoorX3
import Derived.Test.YtnceocjgcdcpgaaDoorX4
import Derived.Test.YtnceocjgcdcpgaaDoorX5
import Derived.Test.YtnceocjgcdcpgaaDoorX6
namespace Go.Proofs.YtnceocjgcdcpgaaDoor.X
open Go.RowKit Go.Proofs.YtnceocjgcdcpgaaDoorW.PrintWords Go.Proofs.YtnceocjgcdcpgaaDoorW.PrintLast Go.Proofs.YtnceocjgcdcpgaaDoorW.PrintMore
attribute [local go_sem] max2_int min2_int max_two min_two max_three min_three max_four min_four   -- for this text's walks alone
set_option linter.unusedVariables false
set_option linter.unusedSimpArgs false

end Go.Proofs.YtnceocjgcdcpgaaDoor.X
