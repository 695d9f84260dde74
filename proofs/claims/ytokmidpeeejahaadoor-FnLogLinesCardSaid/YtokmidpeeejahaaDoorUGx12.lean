-- Written by a program of this session (wip/pd.py), which calls the kit's print; externals' contracts by hand.
import Derived.Test.YtokmidpeeejahaaDoorUGx0
import Derived.Test.YtokmidpeeejahaaDoorUGx11
namespace Go.Proofs.YtokmidpeeejahaaDoor.G
open Go.RowKit Go.Proofs.YtokmidpeeejahaaDoorW.PrintWords Go.Proofs.YtokmidpeeejahaaDoorW.PrintLast Go.Proofs.YtokmidpeeejahaaDoorW.PrintMore
attribute [local go_sem] max2_int min2_int max_two min_two max_three min_three max_four min_four   -- for this text's walks alone
set_option linter.unusedVariables false
set_option linter.unusedSimpArgs false

section
attribute [local go_sem high] run_add_cat run_slice_cat run_slice_cat_h run_slice_cat_l run_slice_cat_all
/-! ### laws_heldLogRecordS: function 28 -/
def laws_heldLogRecordS.l0 : Nat → List (S40) → Int → Int → Option (Int)
  | 0, _, _, _ => none
  | k + 1, x0, x1, x5 => if x5 < (x0.length : Int) then (if 0 ≤ x5 then ((laws_markText.f k x1).bind fun t329 => (if ((rd_T40 x0 x5).f0).toList = t329.toList then ((laws_markText.f k (wrap64 (x1 + 1))).bind fun t331 => (if ((rd_T40 x0 x5).f1).toList = t331.toList then (laws_heldLogRecordS.l0 k x0 (wrap64 ((wrap64 (x1 + 1)) + 1)) (wrap64 (x5 + 1))) else (some (-1)))) else (some (-1)))) else (none)) else (some x1)
def laws_heldLogRecordS.f (k : Nat) (l0 : List (S40)) (a1 : Int) : Option (Int) := laws_heldLogRecordS.l0 k l0 a1 0
end

end Go.Proofs.YtokmidpeeejahaaDoor.G
