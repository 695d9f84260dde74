/- The laws of the log, in plain Lean: the printed function of a law answers true. -/
import Derived.Test.YtokmidpeeejahaaDoorUMLogs
import Derived.Test.YtokmidpeeejahaaDoorUGx7
namespace Go.Proofs.YtokmidpeeejahaaDoor.G
open Go.RowKit Go.Proofs.YtokmidpeeejahaaDoorW.PrintWords Go.Proofs.YtokmidpeeejahaaDoorW.PrintLast Go.Proofs.YtokmidpeeejahaaDoor.LogM
set_option linter.unusedVariables false
set_option linter.unusedSimpArgs false

end Go.Proofs.YtokmidpeeejahaaDoor.G
