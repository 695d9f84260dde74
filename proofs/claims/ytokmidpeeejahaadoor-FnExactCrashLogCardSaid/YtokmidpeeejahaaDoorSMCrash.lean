/- The law of CrashLog, in plain Lean: the printed function of the law answers true. -/
import Derived.Test.YtokmidpeeejahaaDoorSMLaws
import Derived.Test.YtokmidpeeejahaaDoorSGx3
import Derived.Test.YtokmidpeeejahaaDoorSGx5
import Derived.Test.YtokmidpeeejahaaDoorSGx17
import Derived.Test.YtokmidpeeejahaaDoorSGx18
namespace Go.Proofs.YtokmidpeeejahaaDoor.G
open Go.RowKit Go.Proofs.YtokmidpeeejahaaDoorW.PrintWords Go.Proofs.YtokmidpeeejahaaDoorW.PrintLast Go.Proofs.YtokmidpeeejahaaDoor.LogM
set_option linter.unusedVariables false
set_option linter.unusedSimpArgs false

/-- What CrashLog answers. -/
def crashR (D P : ByteArray) (n m : Int) (b : Bool) : ByteArray × Bool := if vlog (L D) (L P) n ∧ 0 ≤ m ∧ m ≤ (P.size : Int) then (cat D (tear P m.toNat b), true) else (⟨#[]⟩, false)
theorem CrashLogS_ev (D P : ByteArray) (n m : Int) (b : Bool) (hD : D.size ≤ 140737488351232) (hP : P.size ≤ 140737488351232) : Ev (fun k => spec_CrashLog.f k D P n m b) (crashR D P n m b) := by
  unfold spec_CrashLog.f
  refine Ev.bind (l27Log_ev D P n hD hP) ?_
  by_cases h : vlog (L D) (L P) n
  · refine Ev.pos (decide_eq_true h) (Ev.bindc (l1In_eq _ _ _) ?_)
    by_cases hm : 0 ≤ m ∧ m ≤ (P.size : Int)
    · rw [show crashR D P n m b = (cat D (tear P m.toNat b), true) from if_pos ⟨h, hm⟩]
      exact Ev.pos (decide_eq_true hm) (Ev.pos hm (Ev.pos (by omega) (Ev.const rfl)))
    · rw [show crashR D P n m b = (⟨#[]⟩, false) from if_neg fun x => hm x.2]
      exact Ev.neg (by simpa using hm) (Ev.const rfl)
  · rw [show crashR D P n m b = (⟨#[]⟩, false) from if_neg fun x => h x.1]
    exact Ev.neg (by simpa using h) (Ev.const rfl)
theorem CrashLogI_ev (D P : ByteArray) (n m : Int) (b : Bool) (hD : D.size ≤ 140737488351232) (hP : P.size ≤ 140737488351232) : Ev (fun k => impl_CrashLog.f k D P n m b) (crashR D P n m b) := by
  unfold impl_CrashLog.f
  refine Ev.bind (IsValidLogI_ev D P n hD hP) ?_
  by_cases h : vlog (L D) (L P) n
  · refine Ev.pos (decide_eq_true h) (Ev.bindc (in_eq _ _ _) ?_)
    by_cases hm : 0 ≤ m ∧ m ≤ (P.size : Int)
    · rw [show crashR D P n m b = (cat D (tear P m.toNat b), true) from if_pos ⟨h, hm⟩]
      exact Ev.pos (decide_eq_true hm) (Ev.pos hm (Ev.pos (by omega) (Ev.const rfl)))
    · rw [show crashR D P n m b = (⟨#[]⟩, false) from if_neg fun x => hm x.2]
      exact Ev.neg (by simpa using hm) (Ev.const rfl)
  · rw [show crashR D P n m b = (⟨#[]⟩, false) from if_neg fun x => h x.1]
    exact Ev.neg (by simpa using h) (Ev.const rfl)
theorem FnExactCrashLog_pure (D P : ByteArray) (n m : Int) (b : Bool) (hD : D.size ≤ 140737488351232) (hP : P.size ≤ 140737488351232) : Ev (fun k => laws_FnExactCrashLog.f k D P n m b) true := by
  unfold laws_FnExactCrashLog.f
  obtain ⟨r, hr⟩ := szLog_some D P n 1048576
  refine Ev.bindc hr ?_
  by_cases h : r < 0
  · exact Ev.pos h (Ev.const rfl)
  · refine Ev.neg h (Ev.bindc (a := (D, P, n)) rfl (Ev.bind (CrashLogS_ev D P n m b hD hP) (Ev.bindc (a := (D, P, n)) rfl (Ev.bind (CrashLogI_ev D P n m b hD hP) (Ev.pos rfl ?_)))))
    refine Ev.last fun k => ?_
    simp only [laws_FnExactCrashLog.j0]
    rw [if_neg (by simp)]
end Go.Proofs.YtokmidpeeejahaaDoor.G
