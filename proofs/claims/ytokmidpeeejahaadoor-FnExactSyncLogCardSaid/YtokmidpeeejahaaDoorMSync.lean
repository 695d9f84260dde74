/- The law of SyncLog, in plain Lean: the printed function of the law answers true. -/
import Derived.Test.YtokmidpeeejahaaDoorMLaws
import Derived.Test.YtokmidpeeejahaaDoorGx7
import Derived.Test.YtokmidpeeejahaaDoorGx8
namespace Go.Proofs.YtokmidpeeejahaaDoor.G
open Go.RowKit Go.Proofs.YtokmidpeeejahaaDoorW.PrintWords Go.Proofs.YtokmidpeeejahaaDoorW.PrintLast Go.Proofs.YtokmidpeeejahaaDoor.LogM
set_option linter.unusedVariables false
set_option linter.unusedSimpArgs false

theorem eqLog_same (D P : ByteArray) (n : Int) : laws_eqLog.f D P n D P n = some true := by
  unfold laws_eqLog.f
  rw [if_pos rfl, if_pos rfl, if_pos rfl]
/-- What SyncLog answers. -/
def syncR (D P : ByteArray) (n : Int) : ByteArray × ByteArray × Int × Bool := if vlog (L D) (L P) n then (cat D P, ⟨#[]⟩, n, true) else (⟨#[]⟩, ⟨#[]⟩, 0, false)
theorem SyncLogS_ev (D P : ByteArray) (n : Int) (hD : D.size ≤ 140737488351232) (hP : P.size ≤ 140737488351232) : Ev (fun k => spec_SyncLog.f k D P n) (syncR D P n) := by
  unfold spec_SyncLog.f syncR
  refine Ev.bind (l27Log_ev D P n hD hP) ?_
  by_cases h : vlog (L D) (L P) n
  · rw [if_pos h]
    exact Ev.pos (decide_eq_true h) (Ev.pos (by omega) (Ev.const rfl))
  · rw [if_neg h]
    exact Ev.neg (by simpa using h) (Ev.const rfl)
theorem SyncLogI_ev (D P : ByteArray) (n : Int) (hD : D.size ≤ 140737488351232) (hP : P.size ≤ 140737488351232) : Ev (fun k => impl_SyncLog.f k D P n) (syncR D P n) := by
  unfold impl_SyncLog.f syncR
  refine Ev.bind (IsValidLogI_ev D P n hD hP) ?_
  by_cases h : vlog (L D) (L P) n
  · rw [if_pos h]
    exact Ev.pos (decide_eq_true h) (Ev.pos (by omega) (Ev.const rfl))
  · rw [if_neg h]
    exact Ev.neg (by simpa using h) (Ev.const rfl)
theorem FnExactSyncLog_pure (D P : ByteArray) (n : Int) (hD : D.size ≤ 140737488351232) (hP : P.size ≤ 140737488351232) : Ev (fun k => laws_FnExactSyncLog.f k D P n) true := by
  unfold laws_FnExactSyncLog.f
  obtain ⟨r, hr⟩ := szLog_some D P n 1048576
  refine Ev.bindc hr ?_
  by_cases h : r < 0
  · exact Ev.pos h (Ev.const rfl)
  · refine Ev.neg h (Ev.bindc (a := (D, P, n)) rfl (Ev.bind (SyncLogS_ev D P n hD hP) (Ev.bindc (a := (D, P, n)) rfl (Ev.bind (SyncLogI_ev D P n hD hP) (Ev.bindc (eqLog_same _ _ _) (Ev.pos rfl ?_))))))
    refine Ev.last fun k => ?_
    simp only [laws_FnExactSyncLog.j0]
    rw [if_neg (by simp)]
end Go.Proofs.YtokmidpeeejahaaDoor.G
