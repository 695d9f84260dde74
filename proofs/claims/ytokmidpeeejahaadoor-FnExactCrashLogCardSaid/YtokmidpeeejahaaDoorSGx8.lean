-- Written by a program of this session (wip/pd.py), which calls the kit's print; externals' contracts by hand.
import Derived.Test.YtokmidpeeejahaaDoorSGx0
import Derived.Test.YtokmidpeeejahaaDoorSGx3
import Derived.Test.YtokmidpeeejahaaDoorSGx4
import Derived.Test.YtokmidpeeejahaaDoorSGx5
import Derived.Test.YtokmidpeeejahaaDoorSGx7
namespace Go.Proofs.YtokmidpeeejahaaDoor.G
open Go.RowKit Go.Proofs.YtokmidpeeejahaaDoorW.PrintWords Go.Proofs.YtokmidpeeejahaaDoorW.PrintLast Go.Proofs.YtokmidpeeejahaaDoorW.PrintMore
attribute [local go_sem] max2_int min2_int max_two min_two max_three min_three max_four min_four   -- for this text's walks alone
set_option linter.unusedVariables false
set_option linter.unusedSimpArgs false

section
attribute [local go_sem high] run_add_cat run_slice_cat run_slice_cat_h run_slice_cat_l run_slice_cat_all
/-! ### laws_FnExactSyncLog: function 5 -/
end

section
attribute [local go_sem high] run_add_cat run_slice_cat run_slice_cat_h run_slice_cat_l run_slice_cat_all
/-! ### laws_szLogRecord: function 20 -/
end

section
attribute [local go_sem high] run_add_cat run_slice_cat run_slice_cat_h run_slice_cat_l run_slice_cat_all
/-! ### spec_AppendRecord: function 21 -/
def spec_AppendRecord.j0 : Nat → Bool → ByteArray → ByteArray → Int → ByteArray → ByteArray → Option (ByteArray × ByteArray × Int × Int)
  | 0, _, _, _, _, _, _ => none
  | k + 1, x13, x262000, x262001, x262002, x263000, x263001 => if x13 = true then (some (x262000, x262001, x262002, 1)) else (if x262002 = 60 then (some (x262000, x262001, x262002, 2)) else ((spec_l27Line.f k x262002 x263000 x263001).bind fun t266 => (if x262001.size + t266.size ≤ 9223372036854775807 then (some (x262000, cat x262001 t266, wrap64 (x262002 + 1), 0)) else (none))))
def spec_AppendRecord.f (k : Nat) (a0_0 : ByteArray) (a0_1 : ByteArray) (a0_2 : Int) (a1_0 : ByteArray) (a1_1 : ByteArray) : Option (ByteArray × ByteArray × Int × Int) := (spec_l27Log.f k a0_0 a0_1 a0_2).bind fun t264 => (if t264 = true then ((spec_l27Good.f k a1_0 a1_1).bind fun t265 => (spec_AppendRecord.j0 k (!t265) a0_0 a0_1 a0_2 a1_0 a1_1)) else (spec_AppendRecord.j0 k true a0_0 a0_1 a0_2 a1_0 a1_1))
end

section
attribute [local go_sem high] run_add_cat run_slice_cat run_slice_cat_h run_slice_cat_l run_slice_cat_all
/-! ### laws_toLogRecord: function 22 -/
end

end Go.Proofs.YtokmidpeeejahaaDoor.G
