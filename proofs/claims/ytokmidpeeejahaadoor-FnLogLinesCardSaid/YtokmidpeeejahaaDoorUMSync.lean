/- The law of SyncLog, in plain Lean: the printed function of the law answers true. -/
import Derived.Test.YtokmidpeeejahaaDoorUMLaws
import Derived.Test.YtokmidpeeejahaaDoorUGx7
import Derived.Test.YtokmidpeeejahaaDoorUGx8
namespace Go.Proofs.YtokmidpeeejahaaDoor.G
open Go.RowKit Go.Proofs.YtokmidpeeejahaaDoorW.PrintWords Go.Proofs.YtokmidpeeejahaaDoorW.PrintLast Go.Proofs.YtokmidpeeejahaaDoor.LogM
set_option linter.unusedVariables false
set_option linter.unusedSimpArgs false

/-- What SyncLog answers. -/
def syncR (D P : ByteArray) (n : Int) : ByteArray × ByteArray × Int × Bool := if vlog (L D) (L P) n then (cat D P, ⟨#[]⟩, n, true) else (⟨#[]⟩, ⟨#[]⟩, 0, false)
theorem SyncLogS_ev (D P : ByteArray) (n : Int) (hD : D.size ≤ 140737488351232) (hP : P.size ≤ 140737488351232) : Ev (fun k => spec_SyncLog.f k D P n) (syncR D P n) := by
  unfold spec_SyncLog.f syncR
  refine Ev.bind (l27Log_ev D P n hD hP) ?_
  by_cases h : vlog (L D) (L P) n
  · rw [if_pos h]
    exact Ev.pos (decide_eq_true h) (Ev.pos (by omega) (Ev.const rfl))
  · rw [if_neg h]
    exact Ev.neg (by simpa using h) (Ev.const rfl)
theorem SyncLogI_ev (D P : ByteArray) (n : Int) (hD : D.size ≤ 140737488351232) (hP : P.size ≤ 140737488351232) : Ev (fun k => impl_SyncLog.f k D P n) (syncR D P n) := by
  unfold impl_SyncLog.f syncR
  refine Ev.bind (IsValidLogI_ev D P n hD hP) ?_
  by_cases h : vlog (L D) (L P) n
  · rw [if_pos h]
    exact Ev.pos (decide_eq_true h) (Ev.pos (by omega) (Ev.const rfl))
  · rw [if_neg h]
    exact Ev.neg (by simpa using h) (Ev.const rfl)
end Go.Proofs.YtokmidpeeejahaaDoor.G
