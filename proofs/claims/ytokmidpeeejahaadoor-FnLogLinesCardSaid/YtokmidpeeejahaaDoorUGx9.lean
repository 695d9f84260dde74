-- Written by a program of this session (wip/pd.py), which calls the kit's print; externals' contracts by hand.
import Derived.Test.YtokmidpeeejahaaDoorUGx0
import Derived.Test.YtokmidpeeejahaaDoorUGx5
import Derived.Test.YtokmidpeeejahaaDoorUGx6
import Derived.Test.YtokmidpeeejahaaDoorUGx7
namespace Go.Proofs.YtokmidpeeejahaaDoor.G
open Go.RowKit Go.Proofs.YtokmidpeeejahaaDoorW.PrintWords Go.Proofs.YtokmidpeeejahaaDoorW.PrintLast Go.Proofs.YtokmidpeeejahaaDoorW.PrintMore
attribute [local go_sem] max2_int min2_int max_two min_two max_three min_three max_four min_four   -- for this text's walks alone
set_option linter.unusedVariables false
set_option linter.unusedSimpArgs false

section
attribute [local go_sem high] run_add_cat run_slice_cat run_slice_cat_h run_slice_cat_l run_slice_cat_all
/-! ### impl_AppendRecord: function 23 -/
end

end Go.Proofs.YtokmidpeeejahaaDoor.G
