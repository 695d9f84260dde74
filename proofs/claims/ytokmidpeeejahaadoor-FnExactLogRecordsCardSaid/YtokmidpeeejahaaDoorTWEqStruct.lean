-- A shortened copy of words of the kit's print: what this claim does not need is left out.
import Derived.Test.YtokmidpeeejahaaDoorTWWords
import Derived.Laws.StructEq
/-! ### 53. '==' of structs as_ one Bool -/
namespace Go.Proofs.YtokmidpeeejahaaDoorW.PrintWords
open Go.RowKit
section
variable {P : Program} {d : Nat} {xs ys : Array Value} {f : Field} {fs : List Field} {a b : Value} {r s : Bool} {w : World}
end
end Go.Proofs.YtokmidpeeejahaaDoorW.PrintWords
