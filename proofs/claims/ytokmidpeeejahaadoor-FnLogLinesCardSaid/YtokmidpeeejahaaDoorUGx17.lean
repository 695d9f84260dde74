-- Written by a program of this session (wip/pd.py), which calls the kit's print; externals' contracts by hand.
import Derived.Test.YtokmidpeeejahaaDoorUGx0
import Derived.Test.YtokmidpeeejahaaDoorUGx3
import Derived.Test.YtokmidpeeejahaaDoorUGx5
import Derived.Test.YtokmidpeeejahaaDoorUGx7
import Derived.Test.YtokmidpeeejahaaDoorUGx8
import Derived.Test.YtokmidpeeejahaaDoorUGx13
import Derived.Test.YtokmidpeeejahaaDoorUGx14
import Derived.Test.YtokmidpeeejahaaDoorUGx15
namespace Go.Proofs.YtokmidpeeejahaaDoor.G
open Go.RowKit Go.Proofs.YtokmidpeeejahaaDoorW.PrintWords Go.Proofs.YtokmidpeeejahaaDoorW.PrintLast Go.Proofs.YtokmidpeeejahaaDoorW.PrintMore
attribute [local go_sem] max2_int min2_int max_two min_two max_three min_three max_four min_four   -- for this text's walks alone
set_option linter.unusedVariables false
set_option linter.unusedSimpArgs false

section
attribute [local go_sem high] run_add_cat run_slice_cat run_slice_cat_h run_slice_cat_l run_slice_cat_all
/-! ### spec_l1Cur_anyLog: function 58 -/
end

section
attribute [local go_sem high] run_add_cat run_slice_cat run_slice_cat_h run_slice_cat_l run_slice_cat_all
/-! ### spec_DrawAppendRecord: function 36 -/
mutual
def spec_DrawAppendRecord.j1 : Nat → List Int → Int → Int → ByteArray → ByteArray → Int → Option (ByteArray × ByteArray × Int × ByteArray × ByteArray)
  | 0, _, _, _, _, _, _ => none
  | k + 1, x552000, x552001, x552002, x558000, x558001, x558002 => (spec_l1Cur_logRecord.f x552000 x552001 x552002).bind fun bt568 => (some (x558000, x558001, x558002, bt568.1, bt568.2.1))
def spec_DrawAppendRecord.l0 : Nat → Int → List Int → Int → Int → ByteArray → ByteArray → Int → Option (ByteArray × ByteArray × Int × ByteArray × ByteArray)
  | 0, _, _, _, _, _, _, _ => none
  | k + 1, x6, x552000, x552001, x552002, x558000, x558001, x558002 => if x6 > 0 then ((spec_AppendRecord.f k x558000 x558001 x558002 (⟨#[120]⟩ : ByteArray) (⟨#[]⟩ : ByteArray)).bind fun bt564 => (spec_DrawAppendRecord.l0 k (wrap64 (x6 - 1)) x552000 x552001 x552002 bt564.1 bt564.2.1 bt564.2.2.1)) else (spec_DrawAppendRecord.j1 k x552000 x552001 x552002 x558000 x558001 x558002)
end
end

section
attribute [local go_sem high] run_add_cat run_slice_cat run_slice_cat_h run_slice_cat_l run_slice_cat_all
/-! ### spec_IsValidRecord: function 38 -/
end

-- NOT PRINTED: function 9 (laws_FnLog)

/-! ### spec_CrashLog: function 15 (by hand) -/
/-! ### impl_CrashLog: function 16 (by hand) -/
end Go.Proofs.YtokmidpeeejahaaDoor.G
