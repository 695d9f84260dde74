-- A shortened copy of words of the kit's print: what this claim does not need is left out.
import Derived.Test.YtokmidpeeejahaaDoorUWTab
/-! ### 56. Four, five, six operations that may come up next, in any order -/
namespace Go.Proofs.YtokmidpeeejahaaDoorW.PrintLast
section
variable {P : Program} {ops : Array Oper} {Q : Exit → Act → World → Prop} {md : Region.Mode} {S : World → Prop} {ds : List Nat} {T : Bool × List (List Nat × List Nat)}
end
end Go.Proofs.YtokmidpeeejahaaDoorW.PrintLast
