-- Written by a program of this session (wip/pd.py), which calls the kit's print; externals' contracts by hand.
import Derived.Test.YtokmidpeeejahaaDoorSGx0
import Derived.Test.YtokmidpeeejahaaDoorSGx3
import Derived.Test.YtokmidpeeejahaaDoorSGx4
import Derived.Test.YtokmidpeeejahaaDoorSGx7
import Derived.Test.YtokmidpeeejahaaDoorSGx8
import Derived.Test.YtokmidpeeejahaaDoorSGx13
namespace Go.Proofs.YtokmidpeeejahaaDoor.G
open Go.RowKit Go.Proofs.YtokmidpeeejahaaDoorW.PrintWords Go.Proofs.YtokmidpeeejahaaDoorW.PrintLast Go.Proofs.YtokmidpeeejahaaDoorW.PrintMore
attribute [local go_sem] max2_int min2_int max_two min_two max_three min_three max_four min_four   -- for this text's walks alone
set_option linter.unusedVariables false
set_option linter.unusedSimpArgs false

section
attribute [local go_sem high] run_add_cat run_slice_cat run_slice_cat_h run_slice_cat_l run_slice_cat_all
/-! ### spec_l1Cur_logRecord: function 50 -/
def spec_l1Cur_logRecord.f (s0_0 : List Int) (s0_1 : Int) (s0_2 : Int) : Option (ByteArray × ByteArray × Int × Int) := (spec_l1Cur_of.f s0_0 s0_1 s0_2 (([(⟨#[99, 111, 117, 110, 116]⟩ : ByteArray), (⟨#[115, 111, 114, 116, 32, 109, 101, 114, 103, 101]⟩ : ByteArray), (⟨#[120]⟩ : ByteArray), (⟨#[115, 101, 108, 101, 99, 116, 32, 50]⟩ : ByteArray), (⟨#[48, 32, 49]⟩ : ByteArray)] : List ByteArray))).bind fun bt380 => ((spec_l1Cur_of.f s0_0 bt380.2.1 bt380.2.2 (([(⟨#[]⟩ : ByteArray), (⟨#[51]⟩ : ByteArray), (⟨#[63]⟩ : ByteArray), (⟨#[97, 64, 98]⟩ : ByteArray), (⟨#[51, 32, 49, 32, 50]⟩ : ByteArray)] : List ByteArray))).bind fun bt386 => ((spec_l1Cur_pick.f s0_0 bt386.2.1 bt386.2.2 24).bind fun bt390 => (if bt390.1 = 0 then (if 3 ≤ 281474976710656 then ((spec_l1Cur_of.f s0_0 bt390.2.1 bt390.2.2 (([(⟨#[]⟩ : ByteArray), (⟨#[97, 64, 98]⟩ : ByteArray), (⟨#[97, 35]⟩ : ByteArray), (⟨#[10]⟩ : ByteArray), strOfNums (List.replicate 3 0)] : List ByteArray))).bind fun bt399 => (some (bt399.1, bt386.1, bt399.2.1, bt399.2.2))) else (none)) else (if bt390.1 = 1 then ((spec_l1Cur_of.f s0_0 bt390.2.1 bt390.2.2 (([(⟨#[35]⟩ : ByteArray), (⟨#[10]⟩ : ByteArray), (⟨#[127]⟩ : ByteArray)] : List ByteArray))).bind fun bt405 => (some (bt380.1, bt405.1, bt405.2.1, bt405.2.2))) else (some (bt380.1, bt386.1, bt390.2.1, bt390.2.2))))))
end

section
attribute [local go_sem high] run_add_cat run_slice_cat run_slice_cat_h run_slice_cat_l run_slice_cat_all
/-! ### spec_DrawEncodeRecord: function 30 -/
end

section
attribute [local go_sem high] run_add_cat run_slice_cat run_slice_cat_h run_slice_cat_l run_slice_cat_all
/-! ### spec_EncodeRecord: function 32 -/
end

section
attribute [local go_sem high] run_add_cat run_slice_cat run_slice_cat_h run_slice_cat_l run_slice_cat_all
/-! ### spec_l1Cur_one: function 56 -/
end

section
attribute [local go_sem high] run_add_cat run_slice_cat run_slice_cat_h run_slice_cat_l run_slice_cat_all
/-! ### spec_l1Cur_log: function 53 -/
end

end Go.Proofs.YtokmidpeeejahaaDoor.G
