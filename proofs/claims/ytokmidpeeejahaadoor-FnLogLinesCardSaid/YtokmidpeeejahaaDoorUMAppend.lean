/- The law of AppendRecord, in plain Lean: the printed function of the law answers true. -/
import Derived.Test.YtokmidpeeejahaaDoorUMSync
import Derived.Test.YtokmidpeeejahaaDoorUGx8
import Derived.Test.YtokmidpeeejahaaDoorUGx9
import Derived.Test.YtokmidpeeejahaaDoorUGx10
namespace Go.Proofs.YtokmidpeeejahaaDoor.G
open Go.RowKit Go.Proofs.YtokmidpeeejahaaDoorW.PrintWords Go.Proofs.YtokmidpeeejahaaDoorW.PrintLast Go.Proofs.YtokmidpeeejahaaDoor.LogM
set_option linter.unusedVariables false
set_option linter.unusedSimpArgs false

/-- What AppendRecord answers. -/
def appR (D P : ByteArray) (n : Int) (C R : ByteArray) : ByteArray × ByteArray × Int × Int :=
  if vlog (L D) (L P) n ∧ Rec.good ⟨L C, L R⟩ then (if n = 60 then (D, P, n, 2) else (D, cat P (tx (line n.toNat ⟨L C, L R⟩)), n + 1, 0)) else (D, P, n, 1)
theorem vlog_count {D P : List UInt8} {n : Int} (h : vlog D P n) : 0 ≤ n ∧ n ≤ 60 := by
  have := all_length (D ++ P)
  have := h.2.2.2
  omega
theorem AppendRecordS_ev (D P : ByteArray) (n : Int) (C R : ByteArray) (hD : D.size ≤ 140737488351232) (hP : P.size ≤ 140737488351232) (hC : C.size ≤ 1048576) (hR : R.size ≤ 1048576) :
    Ev (fun k => spec_AppendRecord.f k D P n C R) (appR D P n C R) := by
  unfold spec_AppendRecord.f appR
  have bad : ∀ x : Nat, Ev (fun k => spec_AppendRecord.j0 k true D P n C R) (D, P, n, 1) := fun x => Ev.last fun k => by
    simp only [spec_AppendRecord.j0]
    rw [if_pos trivial]
  refine Ev.bind (l27Log_ev D P n hD hP) ?_
  by_cases h : vlog (L D) (L P) n
  · refine Ev.pos (decide_eq_true h) (Ev.bind (l27Good_ev C R (by unfold small; omega) (by unfold small; omega)) ?_)
    by_cases hg : Rec.good ⟨L C, L R⟩
    · rw [if_pos ⟨h, hg⟩, decide_eq_true hg]
      obtain ⟨c0, c1⟩ := vlog_count h
      by_cases h60 : n = 60
      · rw [if_pos h60]
        refine Ev.last fun k => ?_
        simp only [spec_AppendRecord.j0]
        rw [if_neg (by simp), if_pos h60]
      · rw [if_neg h60]
        have hc : C.size ≤ 160 := by have := hg.2.1; rwa [L_len] at this
        have hr : R.size ≤ 200 := by have := hg.2.2.2.2.1; rwa [L_len] at this
        refine Ev.step (f := fun k => (spec_l27Line.f k n C R).bind fun t266 => (if P.size + t266.size ≤ 9223372036854775807 then (some (D, cat P t266, wrap64 (n + 1), (0 : Int))) else (none))) (fun k => ?_) ?_
        · simp only [spec_AppendRecord.j0]
          rw [if_neg (by simp), if_neg h60]
        · obtain ⟨m, rfl⟩ : ∃ m : Nat, n = (m : Int) := ⟨n.toNat, by omega⟩
          refine Ev.bind (l27Line_ev m (by omega) C R (by omega) (by omega)) (Ev.pos ?_ (Ev.const ?_))
          · rw [tx_size]
            have := line_len hg (show m < 1000000 by omega)
            omega
          · rw [w64 (by omega) (by omega)]
            rfl
    · rw [if_neg (fun x => hg x.2), decide_eq_false hg]
      exact bad 0
  · rw [if_neg (fun x => h x.1)]
    exact Ev.neg (by simpa using h) (bad 0)
end Go.Proofs.YtokmidpeeejahaaDoor.G
