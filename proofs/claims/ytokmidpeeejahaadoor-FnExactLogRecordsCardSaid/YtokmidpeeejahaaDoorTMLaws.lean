/- The laws of the log, in plain Lean: the printed function of a law answers true. -/
import Derived.Test.YtokmidpeeejahaaDoorTMLogs
import Derived.Test.YtokmidpeeejahaaDoorTGx7
namespace Go.Proofs.YtokmidpeeejahaaDoor.G
open Go.RowKit Go.Proofs.YtokmidpeeejahaaDoorW.PrintWords Go.Proofs.YtokmidpeeejahaaDoorW.PrintLast Go.Proofs.YtokmidpeeejahaaDoor.LogM
set_option linter.unusedVariables false
set_option linter.unusedSimpArgs false

theorem szLog_some (D P : ByteArray) (n m : Int) : ∃ r, laws_szLog.f D P n m = some r := by
  unfold laws_szLog.f
  split
  · exact ⟨_, rfl⟩
  · split <;> exact ⟨_, rfl⟩
end Go.Proofs.YtokmidpeeejahaaDoor.G
