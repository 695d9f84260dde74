/- The law of AppendRecord, in plain Lean: the printed function of the law answers true. -/
import Derived.Test.YtokmidpeeejahaaDoorMSync
import Derived.Test.YtokmidpeeejahaaDoorGx8
import Derived.Test.YtokmidpeeejahaaDoorGx9
import Derived.Test.YtokmidpeeejahaaDoorGx10
namespace Go.Proofs.YtokmidpeeejahaaDoor.G
open Go.RowKit Go.Proofs.YtokmidpeeejahaaDoorW.PrintWords Go.Proofs.YtokmidpeeejahaaDoorW.PrintLast Go.Proofs.YtokmidpeeejahaaDoor.LogM
set_option linter.unusedVariables false
set_option linter.unusedSimpArgs false

/-- What AppendRecord answers. -/
def appR (D P : ByteArray) (n : Int) (C R : ByteArray) : ByteArray × ByteArray × Int × Int :=
  if vlog (L D) (L P) n ∧ Rec.good ⟨L C, L R⟩ then (if n = 60 then (D, P, n, 2) else (D, cat P (tx (line n.toNat ⟨L C, L R⟩)), n + 1, 0)) else (D, P, n, 1)
theorem vlog_count {D P : List UInt8} {n : Int} (h : vlog D P n) : 0 ≤ n ∧ n ≤ 60 := by
  have := all_length (D ++ P)
  have := h.2.2.2
  omega
theorem AppendRecordS_ev (D P : ByteArray) (n : Int) (C R : ByteArray) (hD : D.size ≤ 140737488351232) (hP : P.size ≤ 140737488351232) (hC : C.size ≤ 1048576) (hR : R.size ≤ 1048576) :
    Ev (fun k => spec_AppendRecord.f k D P n C R) (appR D P n C R) := by
  unfold spec_AppendRecord.f appR
  have bad : ∀ x : Nat, Ev (fun k => spec_AppendRecord.j0 k true D P n C R) (D, P, n, 1) := fun x => Ev.last fun k => by
    simp only [spec_AppendRecord.j0]
    rw [if_pos trivial]
  refine Ev.bind (l27Log_ev D P n hD hP) ?_
  by_cases h : vlog (L D) (L P) n
  · refine Ev.pos (decide_eq_true h) (Ev.bind (l27Good_ev C R (by unfold small; omega) (by unfold small; omega)) ?_)
    by_cases hg : Rec.good ⟨L C, L R⟩
    · rw [if_pos ⟨h, hg⟩, decide_eq_true hg]
      obtain ⟨c0, c1⟩ := vlog_count h
      by_cases h60 : n = 60
      · rw [if_pos h60]
        refine Ev.last fun k => ?_
        simp only [spec_AppendRecord.j0]
        rw [if_neg (by simp), if_pos h60]
      · rw [if_neg h60]
        have hc : C.size ≤ 160 := by have := hg.2.1; rwa [L_len] at this
        have hr : R.size ≤ 200 := by have := hg.2.2.2.2.1; rwa [L_len] at this
        refine Ev.step (f := fun k => (spec_l27Line.f k n C R).bind fun t266 => (if P.size + t266.size ≤ 9223372036854775807 then (some (D, cat P t266, wrap64 (n + 1), (0 : Int))) else (none))) (fun k => ?_) ?_
        · simp only [spec_AppendRecord.j0]
          rw [if_neg (by simp), if_neg h60]
        · obtain ⟨m, rfl⟩ : ∃ m : Nat, n = (m : Int) := ⟨n.toNat, by omega⟩
          refine Ev.bind (l27Line_ev m (by omega) C R (by omega) (by omega)) (Ev.pos ?_ (Ev.const ?_))
          · rw [tx_size]
            have := line_len hg (show m < 1000000 by omega)
            omega
          · rw [w64 (by omega) (by omega)]
            rfl
    · rw [if_neg (fun x => hg x.2), decide_eq_false hg]
      exact bad 0
  · rw [if_neg (fun x => h x.1)]
    exact Ev.neg (by simpa using h) (bad 0)
theorem AppendRecordI_ev (D P : ByteArray) (n : Int) (C R : ByteArray) (hD : D.size ≤ 140737488351232) (hP : P.size ≤ 140737488351232) (hC : C.size ≤ 1048576) (hR : R.size ≤ 1048576) :
    Ev (fun k => impl_AppendRecord.f k D P n C R) (appR D P n C R) := by
  unfold impl_AppendRecord.f appR
  have bad : ∀ x : Nat, Ev (fun k => impl_AppendRecord.j0 k true D P n C R) (D, P, n, 1) := fun x => Ev.last fun k => by
    simp only [impl_AppendRecord.j0]
    rw [if_pos trivial]
  refine Ev.bind (IsValidLogI_ev D P n hD hP) ?_
  by_cases h : vlog (L D) (L P) n
  · refine Ev.pos (decide_eq_true h) (Ev.bindc (IsValidRecord_eq _ _) ?_)
    by_cases hg : Rec.good ⟨L C, L R⟩
    · rw [if_pos ⟨h, hg⟩, decide_eq_true hg]
      obtain ⟨c0, c1⟩ := vlog_count h
      have hc : C.size ≤ 160 := by have := hg.2.1; rwa [L_len] at this
      have hr : R.size ≤ 200 := by have := hg.2.2.2.2.1; rwa [L_len] at this
      have en := EncodeRecord_ev n C R (by omega) (by omega)
      refine Ev.step (f := fun k => (impl_EncodeRecord.f k n C R).bind fun bt275 => (if bt275.2 = true then (if P.size + bt275.1.size ≤ 9223372036854775807 then (some (D, cat P bt275.1, wrap64 (n + 1), (0 : Int))) else (none)) else (some (D, P, n, 2)))) (fun k => ?_) ?_
      · simp only [impl_AppendRecord.j0]
        rw [if_neg (by simp)]
      · by_cases h60 : n = 60
        · rw [if_neg (fun x => by omega)] at en
          rw [if_pos h60]
          exact Ev.bind en (Ev.neg (by simp) (Ev.const rfl))
        · rw [if_pos ⟨by omega, hg⟩] at en
          rw [if_neg h60]
          refine Ev.bind en (Ev.pos rfl (Ev.pos ?_ (Ev.const ?_)))
          · show P.size + (tx _).size ≤ _
            rw [tx_size]
            have := line_len hg (show n.toNat < 1000000 by omega)
            omega
          · rw [w64 (by omega) (by omega)]
    · rw [if_neg (fun x => hg x.2), decide_eq_false hg]
      exact bad 0
  · rw [if_neg (fun x => h x.1)]
    exact Ev.neg (by simpa using h) (bad 0)
theorem szRec_some (C R : ByteArray) (m : Int) : ∃ r, laws_szLogRecord.f C R m = some r := by
  unfold laws_szLogRecord.f
  split
  · exact ⟨_, rfl⟩
  · split <;> exact ⟨_, rfl⟩
theorem szLog_le {D P : ByteArray} {n m r : Int} (hD : D.size ≤ 140737488351232) (hP : P.size ≤ 140737488351232) (h0 : 0 ≤ m) (h1 : m ≤ 1048576) (h : laws_szLog.f D P n m = some r) (hr : ¬ r < 0) : D.size ≤ 1048576 ∧ P.size ≤ 1048576 ∧ r ≤ m := by
  unfold laws_szLog.f at h
  have e1 : wrap64 (m - (D.size : Int)) = m - (D.size : Int) := w64 (by omega) (by omega)
  have e2 : wrap64 (m - (D.size : Int) - (P.size : Int)) = m - (D.size : Int) - (P.size : Int) := w64 (by omega) (by omega)
  rw [e1, e2] at h
  split at h
  · injection h with h; omega
  · split at h
    · injection h with h; omega
    · injection h with h; omega
theorem szRec_le {C R : ByteArray} {m r : Int} (hC : C.size ≤ 140737488351232) (hR : R.size ≤ 140737488351232) (h0 : 0 ≤ m) (h1 : m ≤ 1048576) (h : laws_szLogRecord.f C R m = some r) (hr : ¬ r < 0) : C.size ≤ 1048576 ∧ R.size ≤ 1048576 ∧ r ≤ m := by
  unfold laws_szLogRecord.f at h
  have e1 : wrap64 (m - (C.size : Int)) = m - (C.size : Int) := w64 (by omega) (by omega)
  have e2 : wrap64 (m - (C.size : Int) - (R.size : Int)) = m - (C.size : Int) - (R.size : Int) := w64 (by omega) (by omega)
  rw [e1, e2] at h
  split at h
  · injection h with h; omega
  · split at h
    · injection h with h; omega
    · injection h with h; omega
theorem FnExactAppendRecord_pure (D P : ByteArray) (n : Int) (C R : ByteArray) (hD : D.size ≤ 140737488351232) (hP : P.size ≤ 140737488351232) (hC : C.size ≤ 140737488351232) (hR : R.size ≤ 140737488351232) :
    Ev (fun k => laws_FnExactAppendRecord.f k D P n C R) true := by
  unfold laws_FnExactAppendRecord.f
  obtain ⟨r, hr⟩ := szLog_some D P n 1048576
  refine Ev.bindc hr ?_
  by_cases h : r < 0
  · exact Ev.pos h (Ev.const rfl)
  obtain ⟨r2, hr2⟩ := szRec_some C R r
  refine Ev.neg h (Ev.bindc hr2 ?_)
  by_cases h2 : r2 < 0
  · exact Ev.pos h2 (Ev.const rfl)
  · obtain ⟨_, _, hl⟩ := szLog_le hD hP (by omega) (by omega) hr h
    obtain ⟨hC, hR, _⟩ := szRec_le hC hR (by omega) hl hr2 h2
    refine Ev.neg h2 (Ev.bindc (a := (D, P, n)) rfl (Ev.bindc (a := (C, R)) rfl (Ev.bind (AppendRecordS_ev D P n C R hD hP hC hR) (Ev.bindc (a := (D, P, n)) rfl (Ev.bindc (a := (C, R)) rfl (Ev.bind (AppendRecordI_ev D P n C R hD hP hC hR) (Ev.bindc (eqLog_same _ _ _) (Ev.pos rfl ?_))))))))
    refine Ev.last fun k => ?_
    simp only [laws_FnExactAppendRecord.j0]
    rw [if_neg (by simp)]
end Go.Proofs.YtokmidpeeejahaaDoor.G
