/- The laws of the log, in plain Lean: the printed function of a law answers true. -/
import Derived.Test.YtokmidpeeejahaaDoorMLogs
import Derived.Test.YtokmidpeeejahaaDoorGx7
namespace Go.Proofs.YtokmidpeeejahaaDoor.G
open Go.RowKit Go.Proofs.YtokmidpeeejahaaDoorW.PrintWords Go.Proofs.YtokmidpeeejahaaDoorW.PrintLast Go.Proofs.YtokmidpeeejahaaDoor.LogM
set_option linter.unusedVariables false
set_option linter.unusedSimpArgs false

theorem szLog_some (D P : ByteArray) (n m : Int) : ∃ r, laws_szLog.f D P n m = some r := by
  unfold laws_szLog.f
  split
  · exact ⟨_, rfl⟩
  · split <;> exact ⟨_, rfl⟩
theorem FnExactIsValidLog_pure (D P : ByteArray) (n : Int) (hD : D.size ≤ 140737488351232) (hP : P.size ≤ 140737488351232) : Ev (fun k => laws_FnExactIsValidLog.f k D P n) true := by
  unfold laws_FnExactIsValidLog.f
  obtain ⟨r, hr⟩ := szLog_some D P n 1048576
  refine Ev.bindc hr ?_
  by_cases h : r < 0
  · exact Ev.pos h (Ev.const rfl)
  · refine Ev.neg h (Ev.bindc (a := (D, P, n)) rfl (Ev.bind (IsValidLogS_ev D P n hD hP) (Ev.bindc (a := (D, P, n)) rfl (Ev.bind (IsValidLogI_ev D P n hD hP) (Ev.neg ?_ (Ev.const rfl))))))
    simp
end Go.Proofs.YtokmidpeeejahaaDoor.G
