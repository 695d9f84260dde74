-- A shortened copy of words of the kit's print: what this claim does not need is left out.
import Derived.Test.YtokmidpeeejahaaDoorUWInv
import Derived.Test.YtokmidpeeejahaaDoorUWFootNe
namespace Go.Proofs.YtokmidpeeejahaaDoorW.PrintWords
open Go.RowKit
end Go.Proofs.YtokmidpeeejahaaDoorW.PrintWords
namespace Go.Proofs.YtokmidpeeejahaaDoorW.PrintLast
section
variable {ops : Array Oper} {a : Act} {o og : Oper} {g : Nat} {t : Tmp} {u : Bool}
end
end Go.Proofs.YtokmidpeeejahaaDoorW.PrintLast
