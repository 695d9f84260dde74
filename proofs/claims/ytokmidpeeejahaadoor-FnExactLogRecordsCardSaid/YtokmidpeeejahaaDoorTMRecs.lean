/- The law of LogRecords, in plain Lean: the printed function of the law answers true. -/
import Derived.Test.YtokmidpeeejahaaDoorTMLaws
import Derived.Test.YtokmidpeeejahaaDoorTGx11
import Derived.Test.YtokmidpeeejahaaDoorTGx12
import Derived.Test.YtokmidpeeejahaaDoorTGx13
namespace Go.Proofs.YtokmidpeeejahaaDoor.G
open Go.RowKit Go.Proofs.YtokmidpeeejahaaDoorW.PrintWords Go.Proofs.YtokmidpeeejahaaDoorW.PrintLast Go.Proofs.YtokmidpeeejahaaDoor.LogM
set_option linter.unusedVariables false
set_option linter.unusedSimpArgs false

/-- What LogRecords answers. -/
def recsR (D P : ByteArray) (n : Int) : List S40 × Bool := if vlog (L D) (L P) n then ((all (L D ++ L P)).map toS, true) else ([], false)
theorem recsR_len (D P : ByteArray) (n : Int) : (recsR D P n).1.length ≤ 60 := by
  unfold recsR
  split
  · rw [List.length_map]; exact all_length _
  · simp
theorem LogRecordsS_ev (D P : ByteArray) (n : Int) (hD : D.size ≤ 140737488351232) (hP : P.size ≤ 140737488351232) : Ev (fun k => spec_LogRecords.f k D P n) (recsR D P n) := by
  unfold spec_LogRecords.f
  refine Ev.bind (l27Log_ev D P n hD hP) ?_
  by_cases h : vlog (L D) (L P) n
  · rw [show recsR D P n = ((all (L D ++ L P)).map toS, true) from if_pos h]
    have hs : D.size + P.size ≤ 30000 := h.1
    have o := l27Open_ev (cat D P) (by rw [cat_size]; omega)
    rw [L_cat] at o
    exact Ev.pos (decide_eq_true h) (Ev.pos (by omega) (Ev.bind o (Ev.const rfl)))
  · rw [show recsR D P n = ([], false) from if_neg h]
    exact Ev.neg (by simpa using h) (Ev.const rfl)
theorem LogRecordsI_ev (D P : ByteArray) (n : Int) (hD : D.size ≤ 140737488351232) (hP : P.size ≤ 140737488351232) : Ev (fun k => impl_LogRecords.f k D P n) (recsR D P n) := by
  unfold impl_LogRecords.f
  obtain ⟨rs, hr, hv⟩ := Log_records_ev D P n hD hP
  refine Ev.bind hr ?_
  by_cases h : vlog (L D) (L P) n
  · rw [show recsR D P n = ((all (L D ++ L P)).map toS, true) from if_pos h, ← hv h]
    exact Ev.pos (decide_eq_true h) (Ev.const rfl)
  · rw [show recsR D P n = ([], false) from if_neg h]
    exact Ev.neg (by simpa using h) (Ev.const rfl)

/-! ### Equal, marked, held -/
theorem eqRec_same (a b : ByteArray) : laws_eqLogRecord.f a b a b = some true := by
  unfold laws_eqLogRecord.f
  rw [if_pos rfl, if_pos rfl]
theorem eqS_loop (l : List S40) (hl : l.length ≤ 1000) : ∀ d i : Nat, i + d = l.length → Ev (fun k => laws_eqLogRecordS.l0 k l l (i : Int)) true := by
  intro d
  induction d with
  | zero =>
    intro i hi
    refine Ev.last fun k => ?_
    simp only [laws_eqLogRecordS.l0]
    rw [if_neg (by omega)]
  | succ d ih =>
    intro i hi
    refine Ev.step (f := fun k => laws_eqLogRecordS.l0 k l l ((i + 1 : Nat) : Int)) (fun k => ?_) (ih (i + 1) (by omega))
    simp only [laws_eqLogRecordS.l0]
    rw [if_pos (by omega), if_pos (by omega), if_pos (by omega), eqRec_same]
    simp only [Option.bind_some]
    rw [if_pos trivial, w64 (by omega) (by omega)]
    rfl
theorem eqS_same (l : List S40) (hl : l.length ≤ 1000) : Ev (fun k => laws_eqLogRecordS.f k l l) true := by
  unfold laws_eqLogRecordS.f
  exact Ev.pos rfl (eqS_loop l hl l.length 0 (by omega))
theorem mark_loop : ∀ (m x : Nat) (s : ByteArray), x ≤ m → m ≤ 1000000 → s.size + m ≤ 2000000 → ∃ t, Ev (fun k => laws_markText.l0 k (x : Int) s) t := by
  intro m
  induction m with
  | zero =>
    intro x s hx hm hs
    refine ⟨cat ⟨#[109]⟩ s, Ev.last fun k => ?_⟩
    simp only [laws_markText.l0]
    rw [if_neg (by omega), if_pos (by omega)]
  | succ m ih =>
    intro x s hx hm hs
    by_cases h0 : x = 0
    · exact ih x s (by omega) (by omega) (by omega)
    · have e1 : (strOfNums ([(wrap64 (48 + (Int.tmod (x : Int) 10))) % 256] : List Int)).size = 1 := rfl
      have e2 : wrap64 (Int.tdiv (x : Int) 10) = ((x / 10 : Nat) : Int) := by
        rw [show Int.tdiv (x : Int) 10 = ((x / 10 : Nat) : Int) from by rw [Int.tdiv_eq_ediv_of_nonneg (by omega)]; omega]
        exact w64 (by omega) (by omega)
      obtain ⟨t, ht⟩ := ih (x / 10) (cat (strOfNums ([(wrap64 (48 + (Int.tmod (x : Int) 10))) % 256] : List Int)) s) (by omega) (by omega) (by rw [cat_size, e1]; omega)
      refine ⟨t, Ev.step (f := fun k => laws_markText.l0 k ((x / 10 : Nat) : Int) (cat (strOfNums ([(wrap64 (48 + (Int.tmod (x : Int) 10))) % 256] : List Int)) s)) (fun k => ?_) ht⟩
      simp only [laws_markText.l0]
      rw [if_pos (by omega)]
      simp only [Option.bind_some]
      rw [if_pos (by rw [e1]; omega), e2]
theorem mark_ex (n : Int) (h0 : 0 < n) (h1 : n ≤ 1000000) : ∃ t, Ev (fun k => laws_markText.f k n) t := by
  obtain ⟨m, rfl⟩ : ∃ m : Nat, n = (m : Int) := ⟨n.toNat, by omega⟩
  obtain ⟨t, ht⟩ := mark_loop m m ⟨#[]⟩ (by omega) (by omega) (by show 0 + m ≤ _; omega)
  refine ⟨t, ?_⟩
  unfold laws_markText.f
  exact Ev.neg (by omega) ht
/-- The mark's text. -/
noncomputable def mk (n : Int) : ByteArray := if h : 0 < n ∧ n ≤ 1000000 then Classical.choose (mark_ex n h.1 h.2) else ⟨#[]⟩
theorem mk_ev {n : Int} (h0 : 0 < n) (h1 : n ≤ 1000000) : Ev (fun k => laws_markText.f k n) (mk n) := by
  unfold mk
  rw [dif_pos ⟨h0, h1⟩]
  exact Classical.choose_spec (mark_ex n h0 h1)
/-- Marked records. -/
noncomputable def marks : Int → Nat → List S40
  | _, 0 => []
  | c, d + 1 => ⟨mk c, mk (c + 1)⟩ :: marks (c + 2) d
theorem rd_at {l : List S40} {i : Nat} (h : i < l.length) : rd_T40 l (i : Int) = l[i] := by
  unfold rd_T40
  rw [Int.toNat_natCast, List.getD_eq_getElem?_getD, List.getElem?_eq_getElem h]; rfl
theorem mark_S : ∀ (d i : Nat) (l : List S40) (c : Int), l.length ≤ 1000 → i + d = l.length → 0 < c → c + 2 * d ≤ 1000 →
    Ev (fun k => laws_markLogRecordS.l0 k l c (i : Int)) (c + 2 * d, l.take i ++ marks c d) := by
  intro d
  induction d with
  | zero =>
    intro i l c hll hi h0 h1
    refine Ev.last fun k => ?_
    simp only [laws_markLogRecordS.l0]
    rw [if_neg (by omega), List.take_of_length_le (by omega)]
    simp [marks]
  | succ d ih =>
    intro i l c hll hi h0 h1
    have hlt : i < l.length := by omega
    have e1 : wrap64 (c + 1) = c + 1 := w64 (by omega) (by omega)
    have e2 : wrap64 (c + 1 + 1) = c + 2 := by rw [w64 (by omega) (by omega)]; omega
    have e3 : wrap64 ((i : Int) + 1) = ((i + 1 : Nat) : Int) := by rw [w64 (by omega) (by omega)]; omega
    refine Ev.step (f := fun k => (laws_markText.f k c).bind fun t324 => (if 0 ≤ (i : Int) then ((some (l.set ((i : Int) : Int).toNat (⟨t324, (rd_T40 l (i : Int)).f1⟩ : S40) : List (S40))).bind fun y325 => ((laws_markText.f k (wrap64 (c + 1))).bind fun t326 => (laws_markLogRecordS.l0 k (y325.set ((i : Int) : Int).toNat (⟨(rd_T40 y325 (i : Int)).f0, t326⟩ : S40)) (wrap64 ((wrap64 (c + 1)) + 1)) (wrap64 ((i : Int) + 1))))) else (none))) (fun k => ?_) ?_
    · simp only [laws_markLogRecordS.l0]
      rw [if_pos (by omega)]
    · refine Ev.bind (mk_ev (n := c) (by omega) (by omega)) (Ev.pos (by omega) (Ev.bindc (a := l.set i ⟨mk c, (rd_T40 l (i : Int)).f1⟩) rfl ?_))
      rw [e1]
      refine Ev.bind (mk_ev (n := c + 1) (by omega) (by omega)) ?_
      rw [e2, e3, Int.toNat_natCast]
      have hr : rd_T40 (l.set i ⟨mk c, (rd_T40 l (i : Int)).f1⟩) (i : Int) = ⟨mk c, (rd_T40 l (i : Int)).f1⟩ := by
        rw [rd_at (by rw [List.length_set]; exact hlt), List.getElem_set_self]
      rw [hr, List.set_set]
      have := ih (i + 1) (l.set i ⟨mk c, mk (c + 1)⟩) (c + 2) (by rw [List.length_set]; omega) (by rw [List.length_set]; omega) (by omega) (by omega)
      have e4 : (l.set i ⟨mk c, mk (c + 1)⟩).take (i + 1) = l.take i ++ [⟨mk c, mk (c + 1)⟩] := by
        rw [List.take_add_one, List.take_set_of_le (Nat.le_refl i), List.getElem?_set_self hlt]; rfl
      rw [e4] at this
      have e5 : (c + 2 * ((d + 1 : Nat) : Int), l.take i ++ marks c (d + 1)) = (c + 2 + 2 * (d : Int), l.take i ++ [⟨mk c, mk (c + 1)⟩] ++ marks (c + 2) d) := by
        simp only [marks, Prod.mk.injEq, List.append_assoc, List.singleton_append, and_true]
        omega
      rw [e5]
      exact this
theorem marks_length (c : Int) (d : Nat) : (marks c d).length = d := by
  induction d generalizing c with
  | zero => rfl
  | succ d ih => simp [marks, ih]
theorem held_S : ∀ (d i : Nat) (l : List S40) (c : Int), l.length ≤ 1000 → i + d = l.length → l.drop i = marks c d → 0 < c → c + 2 * d ≤ 1000 →
    Ev (fun k => laws_heldLogRecordS.l0 k l c (i : Int)) (c + 2 * d) := by
  intro d
  induction d with
  | zero =>
    intro i l c hll hi _ h0 h1
    refine Ev.last fun k => ?_
    simp only [laws_heldLogRecordS.l0]
    rw [if_neg (by omega)]
    simp
  | succ d ih =>
    intro i l c hll hi hm h0 h1
    have hlt : i < l.length := by omega
    have e1 : wrap64 (c + 1) = c + 1 := w64 (by omega) (by omega)
    have e2 : wrap64 (c + 1 + 1) = c + 2 := by rw [w64 (by omega) (by omega)]; omega
    have e3 : wrap64 ((i : Int) + 1) = ((i + 1 : Nat) : Int) := by rw [w64 (by omega) (by omega)]; omega
    rw [List.drop_eq_getElem_cons hlt, marks] at hm
    injection hm with hm1 hm2
    refine Ev.step (f := fun k => (laws_markText.f k c).bind fun t329 => (if ((rd_T40 l (i : Int)).f0).toList = t329.toList then ((laws_markText.f k (wrap64 (c + 1))).bind fun t331 => (if ((rd_T40 l (i : Int)).f1).toList = t331.toList then (laws_heldLogRecordS.l0 k l (wrap64 ((wrap64 (c + 1)) + 1)) (wrap64 ((i : Int) + 1))) else (some (-1)))) else (some (-1)))) (fun k => ?_) ?_
    · simp only [laws_heldLogRecordS.l0]
      rw [if_pos (by omega), if_pos (by omega)]
    · rw [rd_at hlt, hm1, e1, e2, e3]
      refine Ev.bind (mk_ev (n := c) (by omega) (by omega)) (Ev.pos rfl (Ev.bind (mk_ev (n := c + 1) (by omega) (by omega)) (Ev.pos rfl ?_)))
      have := ih (i + 1) l (c + 2) hll (by omega) hm2 (by omega) (by omega)
      have e : c + 2 * ((d + 1 : Nat) : Int) = c + 2 + 2 * (d : Int) := by omega
      rw [e]
      exact this
theorem FnExactLogRecords_pure (D P : ByteArray) (n : Int) (hD : D.size ≤ 140737488351232) (hP : P.size ≤ 140737488351232) : Ev (fun k => laws_FnExactLogRecords.f k D P n) true := by
  unfold laws_FnExactLogRecords.f
  obtain ⟨r, hr⟩ := szLog_some D P n 1048576
  refine Ev.bindc hr ?_
  by_cases h : r < 0
  · exact Ev.pos h (Ev.const rfl)
  have hs := LogRecordsS_ev D P n hD hP
  have hi := LogRecordsI_ev D P n hD hP
  have hl := recsR_len D P n
  generalize recsR D P n = R at hs hi hl
  obtain ⟨W, b⟩ := R
  have hl' : W.length ≤ 60 := hl
  have mk1 : Ev (fun k => laws_markLogRecordS.f k W 1) (1 + 2 * (W.length : Int), marks 1 W.length) := mark_S W.length 0 W 1 (by omega) (by omega) (by omega) (by omega)
  have hd1 : Ev (fun k => laws_heldLogRecordS.f k (marks 1 W.length) 1) (1 + 2 * (W.length : Int)) := held_S W.length 0 (marks 1 W.length) 1 (by rw [marks_length]; omega) (by rw [marks_length]; omega) rfl (by omega) (by omega)
  refine Ev.neg h (Ev.bindc (a := (D, P, n)) rfl (Ev.bind hs (Ev.bindc (a := (D, P, n)) rfl (Ev.bind hi (Ev.bind (eqS_same W (by omega)) (Ev.pos rfl ?_))))))
  refine Ev.step (f := fun k => (laws_markLogRecordS.f k W 1).bind fun bt349 => ((laws_heldLogRecordS.f k bt349.2 1).bind fun t351 => (if t351 < 0 then (some false) else (if t351 = bt349.1 then ((laws_toLog.f D P n).bind fun bt352 => ((impl_LogRecords.f k bt352.1 bt352.2.1 bt352.2.2).bind fun bt355 => ((laws_eqLogRecordS.f k bt355.1 W).bind fun t359 => (if t359 = true then (laws_FnExactLogRecords.j1 k bt349.2 bt349.1 (bt355.2 != b)) else (laws_FnExactLogRecords.j1 k bt349.2 bt349.1 true))))) else (some false))))) (fun k => ?_) ?_
  · simp only [laws_FnExactLogRecords.j0]
    rw [if_neg (by simp)]
  · refine Ev.bind mk1 (Ev.bind hd1 (Ev.neg (by omega) (Ev.pos rfl (Ev.bindc (a := (D, P, n)) rfl (Ev.bind hi (Ev.bind (eqS_same W (by omega)) (Ev.pos rfl ?_)))))))
    refine Ev.step (f := fun k => (laws_heldLogRecordS.f k (marks 1 W.length) 1).bind fun t360 => (if t360 < 0 then (some false) else (if t360 = 1 + 2 * (W.length : Int) then (some true) else (some false)))) (fun k => ?_) ?_
    · simp only [laws_FnExactLogRecords.j1]
      rw [if_neg (by simp)]
    · exact Ev.bind hd1 (Ev.neg (by omega) (Ev.pos rfl (Ev.const rfl)))
end Go.Proofs.YtokmidpeeejahaaDoor.G
