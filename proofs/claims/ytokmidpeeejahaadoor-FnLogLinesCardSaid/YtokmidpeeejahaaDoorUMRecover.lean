/- Recovery of a log, in plain Lean. -/
import Derived.Test.YtokmidpeeejahaaDoorUMDraw
import Derived.Test.YtokmidpeeejahaaDoorUGx14
import Derived.Test.YtokmidpeeejahaaDoorUGx15
namespace Go.Proofs.YtokmidpeeejahaaDoor.G
open Go.RowKit Go.Proofs.YtokmidpeeejahaaDoorW.PrintWords Go.Proofs.YtokmidpeeejahaaDoorW.PrintLast Go.Proofs.YtokmidpeeejahaaDoor.LogM
set_option linter.unusedVariables false
set_option linter.unusedSimpArgs false

/-- What RecoverLog answers. -/
def recR (s : ByteArray) : ByteArray × ByteArray × Int × Int × Bool := if s.size ≤ 30000 then (subs s 0 (endOf (L s)), ⟨#[]⟩, ((all (L s)).length : Int), (endOf (L s) : Int), true) else (⟨#[]⟩, ⟨#[]⟩, 0, 0, false)
theorem RecoverLogS_ev (s : ByteArray) : Ev (fun k => spec_RecoverLog.f k s) (recR s) := by
  unfold spec_RecoverLog.f
  by_cases h : s.size ≤ 30000
  · rw [show recR s = (subs s 0 (endOf (L s)), ⟨#[]⟩, ((all (L s)).length : Int), (endOf (L s) : Int), true) from if_pos h]
    have he := endOf_le (L s)
    rw [L_len] at he
    refine Ev.neg (by omega) (Ev.bind (l27Open_ev s (by omega)) (Ev.pos (by omega) (Ev.pos (by omega) (Ev.const ?_))))
    simp
  · rw [show recR s = (⟨#[]⟩, ⟨#[]⟩, 0, 0, false) from if_neg h]
    exact Ev.pos (by omega) (Ev.const rfl)
theorem ends_last (k p : Nat) (l : List Rec) (h : l ≠ []) : rd (ends k p l) ((l.length - 1 : Nat) : Int) = ((p + (text k l).length : Nat) : Int) := by
  induction l generalizing k p with
  | nil => exact absurd rfl h
  | cons e l ih =>
    cases l with
    | nil => simp [ends, rd, text]
    | cons e2 l =>
      have := ih (k + 1) (p + (line k e).length) (by simp)
      unfold rd at this ⊢
      rw [ends]
      have e1 : ((((e :: e2 :: l).length - 1 : Nat) : Int)).toNat = ((e2 :: l).length - 1) + 1 := by simp
      rw [e1, List.getD_cons_succ]
      rw [Int.toNat_natCast] at this
      rw [this]
      simp only [text, List.length_append]
      omega
theorem RecoverLogI_ev (s : ByteArray) : Ev (fun k => impl_RecoverLog.f k s) (recR s) := by
  unfold impl_RecoverLog.f
  by_cases h : s.size ≤ 30000
  · rw [show recR s = (subs s 0 (endOf (L s)), ⟨#[]⟩, ((all (L s)).length : Int), (endOf (L s) : Int), true) from if_pos h]
    have he := endOf_le (L s)
    rw [L_len] at he
    have hl := all_length (L s)
    refine Ev.neg (by omega) (Ev.bind (readLog_ev s (by omega)) ?_)
    by_cases h0 : all (L s) = []
    · have e0 : endOf (L s) = 0 := by unfold endOf; rw [h0]; rfl
      rw [h0, e0]
      exact Ev.neg (by simp [ends]) (Ev.pos (by omega) (Ev.pos (by omega) (Ev.const rfl)))
    · have hp : 0 < (all (L s)).length := List.length_pos_iff.2 h0
      have hr := ends_last 0 0 (all (L s)) h0
      rw [Nat.zero_add] at hr
      have e1 : ((ends 0 0 (all (L s))).length : Int) = ((all (L s)).length : Int) := by rw [ends_length]
      have e2 : wrap64 (((all (L s)).length : Int) - 1) = (((all (L s)).length - 1 : Nat) : Int) := by rw [w64 (by omega) (by omega)]; omega
      have hr' : rd (ends 0 0 (all (L s))) ((((all (L s)).length - 1 : Nat)) : Int) = (endOf (L s) : Int) := hr
      simp only [e1, e2, hr', List.length_map]
      refine Ev.pos (by omega) (Ev.pos (by omega) (Ev.pos (by omega) (Ev.pos (by omega) (Ev.pos (by omega) (Ev.const ?_)))))
      simp
  · rw [show recR s = (⟨#[]⟩, ⟨#[]⟩, 0, 0, false) from if_neg h]
    exact Ev.pos (by omega) (Ev.const rfl)
/-- A recovered log is valid. -/
theorem rec_valid {s : ByteArray} (h : s.size ≤ 30000) : vlog (L (subs s 0 (endOf (L s)))) [] ((all (L s)).length : Int) := by
  have he := endOf_le (L s)
  rw [L_len] at he
  have e : L (subs s 0 (endOf (L s))) = (L s).take (endOf (L s)) := by rw [L_subs]; simp
  have ha : all ((L s).take (endOf (L s))) = all (L s) := all_take (L s)
  have hn : ((L s).take (endOf (L s))).length = endOf (L s) := by rw [List.length_take, L_len]; omega
  have he2 : endOf ((L s).take (endOf (L s))) = endOf (L s) := by
    show (text 0 (all ((L s).take (endOf (L s))))).length = _
    rw [ha]; rfl
  rw [e]
  refine ⟨?_, ?_, ?_, ?_⟩
  · rw [hn]; simp; omega
  · rw [List.append_nil, he2, hn]; rfl
  · rw [he2, hn]
  · rw [List.append_nil, ha]
/-- What EncodeRecord answers. -/
def encR (k : Int) (c r : ByteArray) : ByteArray × Bool := if (0 ≤ k ∧ k ≤ 59) ∧ Rec.good ⟨L c, L r⟩ then (tx (line k.toNat ⟨L c, L r⟩), true) else (tx [], false)
theorem EncodeRecordS_ev (k : Int) (c r : ByteArray) (hc : c.size ≤ 1048576) (hr : r.size ≤ 1048576) : Ev (fun n => spec_EncodeRecord.f n k c r) (encR k c r) := by
  unfold spec_EncodeRecord.f
  refine Ev.bindc (l1In_eq _ _ _) ?_
  by_cases hk : 0 ≤ k ∧ k ≤ 59
  · refine Ev.pos (decide_eq_true hk) (Ev.bind (l27Good_ev c r (by unfold small; omega) (by unfold small; omega)) ?_)
    by_cases hg : Rec.good ⟨L c, L r⟩
    · rw [show encR k c r = (tx (line k.toNat ⟨L c, L r⟩), true) from if_pos ⟨hk, hg⟩]
      obtain ⟨m, rfl⟩ : ∃ m : Nat, k = (m : Int) := ⟨k.toNat, by omega⟩
      exact Ev.pos (decide_eq_true hg) (Ev.bind (l27Line_ev m (by omega) c r (by omega) (by omega)) (Ev.const rfl))
    · rw [show encR k c r = (tx [], false) from if_neg fun h => hg h.2]
      exact Ev.neg (by simpa using hg) (Ev.const rfl)
  · rw [show encR k c r = (tx [], false) from if_neg fun h => hk h.1]
    exact Ev.neg (by simpa using hk) (Ev.const rfl)
theorem zeros_size (n : Nat) : (strOfNums (List.replicate n 0)).size = n := by
  simp [strOfNums, ByteArray.size]
theorem DrawRecover_last (l : List Int) (hl : isCode l) (t : ByteArray) (ht : t.size ≤ 40000) (at_ s : Int) (h0 : 0 ≤ at_) (h1 : at_ ≤ 700000) : ∃ x, Ev (fun k => spec_DrawRecoverLog.j0 k t l at_ s) x ∧ x.size ≤ 40000 := by
  obtain ⟨b, a, u, e, ha, hb⟩ := one_ok l hl at_ s 40 h0 (by omega)
  cases b with
  | false =>
    refine ⟨t, Ev.last fun k => ?_, ht⟩
    simp only [spec_DrawRecoverLog.j0]
    rw [e]
    simp only [Option.bind_some]
    rw [if_neg (by simp)]
  | true =>
    obtain ⟨x, a2, u2, e2, hx0, hx1, _, _⟩ := pick_ok l hl a u 2 (by omega) (by omega)
    have ew : wrap64 (30000 + x) = 30000 + x := w64 (by omega) (by omega)
    refine ⟨strOfNums (List.replicate (30000 + x).toNat 0), Ev.last fun k => ?_, by rw [zeros_size]; omega⟩
    simp only [spec_DrawRecoverLog.j0]
    rw [e]
    simp only [Option.bind_some]
    rw [if_pos trivial, e2]
    simp only [Option.bind_some]
    rw [ew, if_pos (by omega), if_pos (by omega)]
theorem DrawRecoverLog_ok (l : List Int) (hl : isCode l) : ∃ t, Ev (fun k => spec_DrawRecoverLog.f k l) t ∧ t.size ≤ 40000 := by
  unfold spec_DrawRecoverLog.f
  obtain ⟨D, P, n, a, u, hE, hS, ha, hb⟩ := log_ok l hl 0 0 (by omega) (by omega)
  obtain ⟨x, a1, u1, e1, hx0, hx1, p1, q1⟩ := pick_ok l hl a u 4 (by omega) (by omega)
  have hc : (cat D P).size = D.size + P.size := cat_size _ _
  have key : ∀ x, ∀ g : Nat → Option ByteArray, Ev g x → x.size ≤ 40000 → ∃ t, Ev g t ∧ t.size ≤ 40000 := fun x g h h2 => ⟨x, h, h2⟩
  by_cases c0 : x = 0
  · obtain ⟨y, a2, u2, e2, hy, p2, q2⟩ := spoilt_ok l hl a1 u1 (cat D P) ⟨#[35, 64, 10, 48, 49]⟩ (by omega) rfl (by omega) (by omega)
    obtain ⟨z, hz, hs⟩ := DrawRecover_last l hl y (by omega) a2 u2 (by omega) (by omega)
    exact ⟨z, Ev.bind hE (Ev.pos (by show D.size + P.size ≤ _; omega) (Ev.bindc e1 (Ev.pos c0 (Ev.bindc e2 hz)))), hs⟩
  by_cases c1 : x = 1
  · have ew : wrap64 (((cat D P).size : Int) + 1) = ((cat D P).size : Int) + 1 := w64 (by omega) (by omega)
    obtain ⟨y, a2, u2, e2, hy0, hy1, p2, q2⟩ := pick_ok l hl a1 u1 (((cat D P).size : Int) + 1) (by omega) (by omega)
    obtain ⟨z, hz, hs⟩ := DrawRecover_last l hl (subs (cat D P) 0 y.toNat) (by rw [subs_size _ _ _ (by omega) (by omega)]; omega) a2 u2 (by omega) (by omega)
    refine ⟨z, Ev.bind hE (Ev.pos (by show D.size + P.size ≤ _; omega) (Ev.bindc e1 (Ev.neg c0 (Ev.pos c1 (Ev.bindc (a := (y, a2, u2)) ?_ (Ev.pos hy0 (Ev.pos ?_ hz))))))), hs⟩
    · show spec_l1Cur_pick.f l a1 u1 (wrap64 (((cat D P).size : Int) + 1)) = _
      rw [ew]; exact e2
    · show y ≤ ((cat D P).size : Int)
      omega
  by_cases c2 : x = 2
  · obtain ⟨y, a2, u2, e2, hy0, hy1, p2, q2⟩ := pick_ok l hl a1 u1 4 (by omega) (by omega)
    obtain ⟨c, r, a3, u3, e3, sc, sr, p3, q3⟩ := logRecord_ok l hl a2 u2 (by omega) (by omega)
    obtain ⟨m, rfl⟩ : ∃ m : Nat, y = (m : Int) := ⟨y.toNat, by omega⟩
    have hln := line_len_any m (by omega) ⟨L c, L r⟩
    have hc' : (L c).length = c.size := L_len c
    have hr' : (L r).length = r.size := L_len r
    have hln' : (line m ⟨L c, L r⟩).length ≤ c.size + r.size + 16 := hln
    have hz0 : (cat (cat D P) (tx (line m ⟨L c, L r⟩))).size ≤ 40000 := by rw [cat_size, tx_size]; omega
    obtain ⟨z, hz, hs⟩ := DrawRecover_last l hl (cat (cat D P) (tx (line m ⟨L c, L r⟩))) hz0 a3 u3 (by omega) (by omega)
    refine ⟨z, Ev.bind hE (Ev.pos (by show D.size + P.size ≤ _; omega) (Ev.bindc e1 (Ev.neg c0 (Ev.neg c1 (Ev.pos c2 (Ev.bindc e2 (Ev.bindc e3 (Ev.bind (l27Line_ev m (by omega) c r (by omega) (by omega)) (Ev.pos ?_ hz))))))))), hs⟩
    show (cat D P).size + (tx (line m ⟨L c, L r⟩)).size ≤ _
    rw [tx_size]; omega
  · obtain ⟨z, hz, hs⟩ := DrawRecover_last l hl (cat D P) (by omega) a1 u1 (by omega) (by omega)
    exact ⟨z, Ev.bind hE (Ev.pos (by show D.size + P.size ≤ _; omega) (Ev.bindc e1 (Ev.neg c0 (Ev.neg c1 (Ev.neg c2 hz))))), hs⟩
theorem DrawEncodeRecord_ok (l : List Int) (hl : isCode l) : ∃ k c r, spec_DrawEncodeRecord.f l = some (k, c, r) ∧ k ∈ ([0, 1, 12, 59, 60, -1] : List Int) ∧ c.size ≤ 20 ∧ r.size ≤ 20 := by
  unfold spec_DrawEncodeRecord.f
  obtain ⟨x, a, u, e, hx, _, hb⟩ := among_ok l hl 0 0 [0, 1, 12, 59, 60, (-1)] (by decide) (by omega) (by omega)
  rw [e]
  simp only [Option.bind_some]
  obtain ⟨c, r, a2, u2, e2, sc, sr, _, _⟩ := logRecord_ok l hl a u (by omega) (by omega)
  rw [e2]
  exact ⟨x, c, r, rfl, hx, sc, sr⟩
end Go.Proofs.YtokmidpeeejahaaDoor.G
