/- The draws of the log's laws, in plain Lean: they answer, and what they answer is small. -/
import Derived.Test.YtokmidpeeejahaaDoorUMAppend
import Derived.Test.YtokmidpeeejahaaDoorUGx13
import Derived.Test.YtokmidpeeejahaaDoorUGx14
import Derived.Test.YtokmidpeeejahaaDoorUGx15
import Derived.Test.YtokmidpeeejahaaDoorUGx17
namespace Go.Proofs.YtokmidpeeejahaaDoor.G
open Go.RowKit Go.Proofs.YtokmidpeeejahaaDoorW.PrintWords Go.Proofs.YtokmidpeeejahaaDoorW.PrintLast Go.Proofs.YtokmidpeeejahaaDoor.LogM
set_option linter.unusedVariables false
set_option linter.unusedSimpArgs false

theorem and255 (x : Int) : 0 ≤ Go.bits .and .u64 x 255 ∧ Go.bits .and .u64 x 255 ≤ 255 := by
  have h : (BitVec.ofInt IntKind.u64.bits x &&& BitVec.ofInt IntKind.u64.bits 255).toNat ≤ 255 := by
    rw [BitVec.toNat_and]
    exact Nat.le_trans Nat.and_le_right (by decide)
  have e : Go.bits .and .u64 x 255 = IntKind.u64.wrap ((BitVec.ofInt IntKind.u64.bits x &&& BitVec.ofInt IntKind.u64.bits 255).toNat : Int) := rfl
  rw [e]
  generalize (BitVec.ofInt IntKind.u64.bits x &&& BitVec.ofInt IntKind.u64.bits 255).toNat = n at h
  have e2 : IntKind.u64.wrap (n : Int) = (n : Int) % 18446744073709551616 := by
    simp [IntKind.wrap, IntKind.bits, IntKind.signed]
  rw [e2]
  omega
/-- The code that draws read. -/
def isCode (l : List Int) : Prop := (∀ x ∈ l, 0 ≤ x ∧ x ≤ 255) ∧ l.length ≤ 65536
theorem next_ok (l : List Int) (hl : isCode l) (at_ s : Int) (h0 : 0 ≤ at_) (h1 : at_ ≤ 1000000) : ∃ x a t, spec_l1Cur_next.f l at_ s = some (x, a, t) ∧ 0 ≤ x ∧ x ≤ 255 ∧ a = at_ + 1 := by
  have ea : wrap64 (at_ + 1) = at_ + 1 := w64 (by omega) (by omega)
  have key : ∀ z, wrap64 (Go.bits .and .u64 z 255) = Go.bits .and .u64 z 255 := fun z => by
    have := and255 z
    exact w64 (by omega) (by omega)
  unfold spec_l1Cur_next.f
  rw [ea]
  by_cases h : at_ < (l.length : Int)
  · have hr : 0 ≤ rd l at_ ∧ rd l at_ ≤ 255 := by
      unfold rd
      have hlt : at_.toNat < l.length := by omega
      rw [List.getD_eq_getElem?_getD, List.getElem?_eq_getElem hlt]
      exact hl.1 _ (List.getElem_mem hlt)
    rw [if_pos h, if_pos h0]
    rw [if_pos (by omega)]
    refine ⟨_, _, _, rfl, ?_, ?_, rfl⟩
    · rw [w64 (by omega) (by omega)]; exact hr.1
    · rw [w64 (by omega) (by omega)]; exact hr.2
  · rw [if_neg h]
    by_cases h2 : at_ + 1 ≤ (l.length : Int)
    · omega
    · rw [if_neg h2]
      refine ⟨_, _, _, rfl, ?_, ?_, rfl⟩
      · rw [key]; exact (and255 _).1
      · rw [key]; exact (and255 _).2
theorem pick_ok (l : List Int) (hl : isCode l) (at_ s n : Int) (h0 : 0 ≤ at_) (h1 : at_ ≤ 900000) : ∃ x a t, spec_l1Cur_pick.f l at_ s n = some (x, a, t) ∧ 0 ≤ x ∧ (x = 0 ∨ x < n) ∧ at_ ≤ a ∧ a ≤ at_ + 2 := by
  unfold spec_l1Cur_pick.f
  by_cases h : n ≤ 1
  · rw [if_pos h]
    exact ⟨_, _, _, rfl, by omega, .inl rfl, by omega, by omega⟩
  · rw [if_neg h]
    obtain ⟨x, a, t, e, hx0, hx1, rfl⟩ := next_ok l hl at_ s h0 (by omega)
    rw [e]
    simp only [Option.bind_some]
    by_cases h2 : n > 200
    · rw [if_pos h2]
      obtain ⟨y, b, u, e2, hy0, hy1, rfl⟩ := next_ok l hl (at_ + 1) t (by omega) (by omega)
      rw [e2]
      simp only [Option.bind_some]
      rw [if_neg (by omega)]
      have ew : wrap64 (wrap64 (x * 256) + y) = x * 256 + y := by rw [w64 (x := x * 256) (by omega) (by omega), w64 (by omega) (by omega)]
      refine ⟨_, _, _, rfl, ?_, .inr ?_, by omega, by omega⟩
      · rw [ew]; exact Int.tmod_nonneg _ (by omega)
      · rw [ew]; exact Int.tmod_lt_of_pos _ (by omega)
    · rw [if_neg h2, if_neg (by omega)]
      exact ⟨_, _, _, rfl, Int.tmod_nonneg _ hx0, .inr (Int.tmod_lt_of_pos _ (by omega)), by omega, by omega⟩
theorem one_ok (l : List Int) (hl : isCode l) (at_ s n : Int) (h0 : 0 ≤ at_) (h1 : at_ ≤ 900000) : ∃ x a t, spec_l1Cur_one.f l at_ s n = some (x, a, t) ∧ at_ ≤ a ∧ a ≤ at_ + 2 := by
  obtain ⟨x, a, t, e, _, _, ha, hb⟩ := pick_ok l hl at_ s n h0 h1
  unfold spec_l1Cur_one.f
  rw [e]
  exact ⟨_, _, _, rfl, ha, hb⟩
theorem among_ok (l : List Int) (hl : isCode l) (at_ s : Int) (m : List Int) (hm : 0 < m.length) (h0 : 0 ≤ at_) (h1 : at_ ≤ 900000) : ∃ x a t, spec_l1Cur_among.f l at_ s m = some (x, a, t) ∧ x ∈ m ∧ at_ ≤ a ∧ a ≤ at_ + 2 := by
  obtain ⟨x, a, t, e, hx0, hx1, ha, hb⟩ := pick_ok l hl at_ s (m.length : Int) h0 h1
  unfold spec_l1Cur_among.f
  rw [e]
  simp only [Option.bind_some]
  rw [if_pos hx0, if_pos (by omega)]
  refine ⟨_, _, _, rfl, ?_, ha, hb⟩
  unfold rd
  have hlt : x.toNat < m.length := by omega
  rw [List.getD_eq_getElem?_getD, List.getElem?_eq_getElem hlt]
  exact List.getElem_mem hlt
theorem of_ok (l : List Int) (hl : isCode l) (at_ s : Int) (m : List ByteArray) (hm : 0 < m.length) (h0 : 0 ≤ at_) (h1 : at_ ≤ 900000) : ∃ x a t, spec_l1Cur_of.f l at_ s m = some (x, a, t) ∧ x ∈ m ∧ at_ ≤ a ∧ a ≤ at_ + 2 := by
  obtain ⟨x, a, t, e, hx0, hx1, ha, hb⟩ := pick_ok l hl at_ s (m.length : Int) h0 h1
  unfold spec_l1Cur_of.f
  rw [e]
  simp only [Option.bind_some]
  rw [if_pos hx0, if_pos (by omega)]
  refine ⟨_, _, _, rfl, ?_, ha, hb⟩
  unfold rdOf
  have hlt : x.toNat < m.length := by omega
  rw [List.getD_eq_getElem?_getD, List.getElem?_eq_getElem hlt]
  exact List.getElem_mem hlt
theorem of_small {l : List Int} (hl : isCode l) {at_ s : Int} {m : List ByteArray} (hm : 0 < m.length) (hs : ∀ t ∈ m, t.size ≤ 20) (h0 : 0 ≤ at_) (h1 : at_ ≤ 900000) : ∃ x a t, spec_l1Cur_of.f l at_ s m = some (x, a, t) ∧ x.size ≤ 20 ∧ at_ ≤ a ∧ a ≤ at_ + 2 := by
  obtain ⟨x, a, t, e, hx, ha, hb⟩ := of_ok l hl at_ s m hm h0 h1
  exact ⟨x, a, t, e, hs x hx, ha, hb⟩
theorem logRecord_ok (l : List Int) (hl : isCode l) (at_ s : Int) (h0 : 0 ≤ at_) (h1 : at_ ≤ 800000) : ∃ c r a t, spec_l1Cur_logRecord.f l at_ s = some (c, r, a, t) ∧ c.size ≤ 20 ∧ r.size ≤ 20 ∧ at_ ≤ a ∧ a ≤ at_ + 8 := by
  unfold spec_l1Cur_logRecord.f
  obtain ⟨x1, a1, t1, e1, s1, p1, q1⟩ := of_small hl (s := s) (m := [(⟨#[99, 111, 117, 110, 116]⟩ : ByteArray), (⟨#[115, 111, 114, 116, 32, 109, 101, 114, 103, 101]⟩ : ByteArray), (⟨#[120]⟩ : ByteArray), (⟨#[115, 101, 108, 101, 99, 116, 32, 50]⟩ : ByteArray), (⟨#[48, 32, 49]⟩ : ByteArray)]) (by decide) (by decide) h0 (by omega)
  rw [e1]
  simp only [Option.bind_some]
  obtain ⟨x2, a2, t2, e2, s2, p2, q2⟩ := of_small hl (at_ := a1) (s := t1) (m := [(⟨#[]⟩ : ByteArray), (⟨#[51]⟩ : ByteArray), (⟨#[63]⟩ : ByteArray), (⟨#[97, 64, 98]⟩ : ByteArray), (⟨#[51, 32, 49, 32, 50]⟩ : ByteArray)]) (by decide) (by decide) (by omega) (by omega)
  rw [e2]
  simp only [Option.bind_some]
  obtain ⟨x3, a3, t3, e3, _, _, p3, q3⟩ := pick_ok l hl a2 t2 24 (by omega) (by omega)
  rw [e3]
  simp only [Option.bind_some]
  by_cases c0 : x3 = 0
  · rw [if_pos c0, if_pos (by omega)]
    obtain ⟨x4, a4, t4, e4, s4, p4, q4⟩ := of_small hl (at_ := a3) (s := t3) (m := [(⟨#[]⟩ : ByteArray), (⟨#[97, 64, 98]⟩ : ByteArray), (⟨#[97, 35]⟩ : ByteArray), (⟨#[10]⟩ : ByteArray), strOfNums (List.replicate 3 0)]) (by decide) (by decide) (by omega) (by omega)
    rw [e4]
    exact ⟨x4, x2, a4, t4, rfl, s4, s2, by omega, by omega⟩
  · rw [if_neg c0]
    by_cases c1 : x3 = 1
    · rw [if_pos c1]
      obtain ⟨x4, a4, t4, e4, s4, p4, q4⟩ := of_small hl (at_ := a3) (s := t3) (m := [(⟨#[35]⟩ : ByteArray), (⟨#[10]⟩ : ByteArray), (⟨#[127]⟩ : ByteArray)]) (by decide) (by decide) (by omega) (by omega)
      rw [e4]
      exact ⟨x1, x4, a4, t4, rfl, s1, s4, by omega, by omega⟩
    · rw [if_neg c1]
      exact ⟨x1, x2, a3, t3, rfl, s1, s2, by omega, by omega⟩
/-- The length of a line, whatever its record. -/
theorem line_len_any (k : Nat) (hk : k < 1000000) (e : Rec) : (line k e).length ≤ e.c.length + e.r.length + 16 := by
  have h1 := num_len_small hk
  have h2 := seal_len (body k e)
  have h3 : (body k e).length = (num k).length + 1 + (e.c.length + (1 + e.r.length)) := by simp [body]; omega
  simp only [line, List.length_append, List.length_singleton]
  omega
theorem log_loop (l : List Int) (hl : isCode l) : ∀ (d : Nat) (at_ s : Int) (D P : ByteArray) (n : Int) (A : Nat), 0 ≤ at_ → at_ + 20 * d ≤ 800000 → D.size + P.size + 500 * d ≤ 100000 →
    ∃ D' P' n' a t, Ev (fun k => spec_l1Cur_log.l0 k (d : Int) l at_ s D P n) (D', P', n', a, t) ∧ D'.size + P'.size ≤ D.size + P.size + 500 * d ∧ at_ ≤ a ∧ a ≤ at_ + 20 * d := by
  intro d
  induction d with
  | zero =>
    intro at_ s D P n A h0 h1 hs
    refine ⟨D, P, n, at_, s, Ev.last fun k => ?_, by omega, by omega, by omega⟩
    simp only [spec_l1Cur_log.l0]
    rw [if_neg (by omega)]
  | succ d ih =>
    intro at_ s D P n A h0 h1 hs
    obtain ⟨c, r, a1, t1, e1, sc, sr, p1, q1⟩ := logRecord_ok l hl at_ s h0 (by omega)
    obtain ⟨b, a2, t2, e2, p2, q2⟩ := one_ok l hl a1 t1 4 (by omega) (by omega)
    have ap := AppendRecordS_ev D P n c r (by omega) (by omega) (by omega) (by omega)
    have hap : (appR D P n c r).1.size + (appR D P n c r).2.1.size ≤ D.size + P.size + 500 := by
      unfold appR
      split
      · split
        · show D.size + P.size ≤ _; omega
        · rename_i hv _
          show D.size + (cat P (tx (line n.toNat ⟨L c, L r⟩))).size ≤ _
          have hc := vlog_count hv.1
          have := line_len hv.2 (show n.toNat < 1000000 by omega)
          rw [cat_size, tx_size]
          omega
      · show D.size + P.size ≤ _; omega
    have ew : wrap64 (((d + 1 : Nat) : Int) - 1) = (d : Int) := by rw [w64 (by omega) (by omega)]; omega
    generalize appR D P n c r = R at ap hap
    obtain ⟨D1, P1, n1, w1⟩ := R
    have hap' : D1.size + P1.size ≤ D.size + P.size + 500 := hap
    cases b with
    | false =>
      obtain ⟨D', P', n', a, t, hE, hS, ha, hb⟩ := ih a2 t2 D1 P1 n1 A (by omega) (by omega) (by omega)
      refine ⟨D', P', n', a, t, ?_, by omega, by omega, by omega⟩
      refine Ev.step (f := fun k => (spec_l1Cur_logRecord.f l at_ s).bind fun bt432 => ((spec_AppendRecord.f k D P n bt432.1 bt432.2.1).bind fun bt436 => ((spec_l1Cur_one.f l bt432.2.2.1 bt432.2.2.2 4).bind fun bt440 => (if bt440.1 = true then ((spec_SyncLog.f k bt436.1 bt436.2.1 bt436.2.2.1).bind fun bt443 => (spec_l1Cur_log.l0 k (wrap64 (((d + 1 : Nat) : Int) - 1)) l bt440.2.1 bt440.2.2 bt443.1 bt443.2.1 bt443.2.2.1)) else (spec_l1Cur_log.l0 k (wrap64 (((d + 1 : Nat) : Int) - 1)) l bt440.2.1 bt440.2.2 bt436.1 bt436.2.1 bt436.2.2.1))))) (fun k => ?_) ?_
      · simp only [spec_l1Cur_log.l0]
        rw [if_pos (by omega)]
      · rw [ew]
        exact Ev.bindc e1 (Ev.bind ap (Ev.bindc e2 (Ev.neg (by simp) hE)))
    | true =>
      have sy := SyncLogS_ev D1 P1 n1 (by omega) (by omega)
      have hsy : (syncR D1 P1 n1).1.size + (syncR D1 P1 n1).2.1.size ≤ D1.size + P1.size := by
        unfold syncR
        split
        · show (cat D1 P1).size + 0 ≤ _
          rw [cat_size]; omega
        · show 0 + 0 ≤ _; omega
      generalize syncR D1 P1 n1 = R2 at sy hsy
      obtain ⟨D2, P2, n2, w2⟩ := R2
      have hsy' : D2.size + P2.size ≤ D1.size + P1.size := hsy
      obtain ⟨D', P', n', a, t, hE, hS, ha, hb⟩ := ih a2 t2 D2 P2 n2 A (by omega) (by omega) (by omega)
      refine ⟨D', P', n', a, t, ?_, by omega, by omega, by omega⟩
      refine Ev.step (f := fun k => (spec_l1Cur_logRecord.f l at_ s).bind fun bt432 => ((spec_AppendRecord.f k D P n bt432.1 bt432.2.1).bind fun bt436 => ((spec_l1Cur_one.f l bt432.2.2.1 bt432.2.2.2 4).bind fun bt440 => (if bt440.1 = true then ((spec_SyncLog.f k bt436.1 bt436.2.1 bt436.2.2.1).bind fun bt443 => (spec_l1Cur_log.l0 k (wrap64 (((d + 1 : Nat) : Int) - 1)) l bt440.2.1 bt440.2.2 bt443.1 bt443.2.1 bt443.2.2.1)) else (spec_l1Cur_log.l0 k (wrap64 (((d + 1 : Nat) : Int) - 1)) l bt440.2.1 bt440.2.2 bt436.1 bt436.2.1 bt436.2.2.1))))) (fun k => ?_) ?_
      · simp only [spec_l1Cur_log.l0]
        rw [if_pos (by omega)]
      · rw [ew]
        exact Ev.bindc e1 (Ev.bind ap (Ev.bindc e2 (Ev.pos rfl (Ev.bind sy hE))))
theorem log_ok (l : List Int) (hl : isCode l) (at_ s : Int) (h0 : 0 ≤ at_) (h1 : at_ ≤ 700000) :
    ∃ D P n a t, Ev (fun k => spec_l1Cur_log.f k l at_ s) (D, P, n, a, t) ∧ D.size + P.size ≤ 4000 ∧ at_ ≤ a ∧ a ≤ at_ + 200 := by
  obtain ⟨x, a, t, e, hx0, hx1, ha, hb⟩ := pick_ok l hl at_ s 7 h0 (by omega)
  obtain ⟨m, rfl⟩ : ∃ m : Nat, x = (m : Int) := ⟨x.toNat, by omega⟩
  have e0 : (⟨#[]⟩ : ByteArray).size = 0 := rfl
  obtain ⟨D', P', n', a', t', hE, hS, hp, hq⟩ := log_loop l hl m a t ⟨#[]⟩ ⟨#[]⟩ 0 0 (by omega) (by omega) (by rw [e0]; omega)
  rw [e0] at hS
  refine ⟨D', P', n', a', t', ?_, by omega, by omega, by omega⟩
  unfold spec_l1Cur_log.f
  exact Ev.bindc e hE
theorem subs_size (s : ByteArray) (i j : Nat) (h : i ≤ j) (hj : j ≤ s.size) : (subs s i j).size = j - i := by
  have := congrArg List.length (L_subs s i j)
  rw [L_len, List.length_take, List.length_drop, L_len] at this
  omega
theorem spoilt_ok (l : List Int) (hl : isCode l) (at_ s : Int) (t w : ByteArray) (ht : t.size ≤ 100000) (hw : w.size = 5) (h0 : 0 ≤ at_) (h1 : at_ ≤ 800000) :
    ∃ x a u, spec_l1Cur_spoilt.f l at_ s t w = some (x, a, u) ∧ x.size ≤ t.size + 1 ∧ at_ ≤ a ∧ a ≤ at_ + 6 := by
  unfold spec_l1Cur_spoilt.f
  by_cases hn : t.toList = ([] : List UInt8)
  · rw [if_pos hn, if_pos (by omega), if_pos (by omega)]
    exact ⟨_, _, _, rfl, by rw [subs_size _ _ _ (by omega) (by omega)]; omega, by omega, by omega⟩
  · rw [if_neg hn]
    have hp : 0 < t.size := by
      rcases Nat.eq_zero_or_pos t.size with h | h
      · refine absurd ?_ hn
        rw [toList_L]
        exact List.eq_nil_of_length_eq_zero (by rw [L_len]; exact h)
      · exact h
    obtain ⟨x1, a1, t1, e1, y1, z1, p1, q1⟩ := pick_ok l hl at_ s (t.size : Int) h0 (by omega)
    rw [e1]
    simp only [Option.bind_some]
    obtain ⟨x2, a2, t2, e2, y2, z2, p2, q2⟩ := pick_ok l hl a1 t1 (w.size : Int) (by omega) (by omega)
    rw [e2]
    simp only [Option.bind_some]
    have hw2 : (subs w x2.toNat w.size).size = w.size - x2.toNat := subs_size _ _ _ (by omega) (by omega)
    have hw3 : (subs (subs w x2.toNat w.size) 0 1).size = 1 := by rw [subs_size _ _ _ (by omega) (by omega)]
    rw [if_pos y2, if_pos (by omega), if_pos (by omega), if_pos (by omega)]
    obtain ⟨x3, a3, t3, e3, y3, z3, p3, q3⟩ := pick_ok l hl a2 t2 3 (by omega) (by omega)
    rw [e3]
    simp only [Option.bind_some]
    have hs1 : (subs t 0 x1.toNat).size = x1.toNat := by rw [subs_size _ _ _ (by omega) (by omega)]; omega
    have hs2 : (subs t x1.toNat t.size).size = t.size - x1.toNat := subs_size _ _ _ (by omega) (by omega)
    have ew : wrap64 (x1 + 1) = x1 + 1 := w64 (by omega) (by omega)
    have hs3 : (subs t (x1 + 1).toNat t.size).size = t.size - (x1 + 1).toNat := subs_size _ _ _ (by omega) (by omega)
    by_cases c0 : x3 = 0
    · rw [if_pos c0, if_pos y1, if_pos (by omega), if_pos (by rw [hs1, hw3]; omega), if_pos (by rw [cat_size, hs1, hw3, hs2]; omega)]
      exact ⟨_, _, _, rfl, by rw [cat_size, cat_size, hs1, hw3, hs2]; omega, Int.le_trans p1 (Int.le_trans p2 p3), by omega⟩
    · rw [if_neg c0]
      by_cases c1 : x3 = 1
      · rw [if_pos c1, if_pos y1, if_pos (by omega), if_pos (by rw [hs1, hw3]; omega), ew, if_pos (by omega), if_pos (by omega), if_pos (by rw [cat_size, hs1, hw3, hs3]; omega)]
        exact ⟨_, _, _, rfl, by rw [cat_size, cat_size, hs1, hw3, hs3]; omega, Int.le_trans p1 (Int.le_trans p2 p3), by omega⟩
      · rw [if_neg c1, if_pos y1, if_pos (by omega), ew, if_pos (by omega), if_pos (by omega), if_pos (by rw [hs1, hs3]; omega)]
        exact ⟨_, _, _, rfl, by rw [cat_size, hs1, hs3]; omega, Int.le_trans p1 (Int.le_trans p2 p3), by omega⟩
end Go.Proofs.YtokmidpeeejahaaDoor.G
