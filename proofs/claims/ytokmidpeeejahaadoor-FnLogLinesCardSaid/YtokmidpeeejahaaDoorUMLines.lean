/- The law of a log's lines, in plain Lean: the printed function of the law answers true. -/
import Derived.Test.YtokmidpeeejahaaDoorUMRecover
import Derived.Test.YtokmidpeeejahaaDoorUGx13
import Derived.Test.YtokmidpeeejahaaDoorUGx16
namespace Go.Proofs.YtokmidpeeejahaaDoor.G
open Go.RowKit Go.Proofs.YtokmidpeeejahaaDoorW.PrintWords Go.Proofs.YtokmidpeeejahaaDoorW.PrintLast Go.Proofs.YtokmidpeeejahaaDoor.LogM
set_option linter.unusedVariables false
set_option linter.unusedSimpArgs false

theorem first_line {j m : Nat} {e e' : Rec} (he : e.good) (h : first j (line m e) = some e') : num j = num m := by
  obtain ⟨h1, t, ht⟩ := first_some.1 h
  have a := line_upto (k := j) h1 t
  rw [ht] at a
  have b := line_upto (k := m) he []
  rw [List.append_nil, a] at b
  have c := congrArg (upto 35) b
  rw [seal_upto (body_nin35 h1), seal_upto (body_nin35 he)] at c
  have d := congrArg (upto 32) c
  have u : ∀ (k : Nat) (e : Rec), upto 32 (body k e) = num k := fun k e => upto_app (num_nin (.inl (by decide)) k)
  rw [u, u] at d
  exact d
theorem num_zero : num 0 = [48] := by unfold num; rw [Lib.decDigits, dif_pos (by omega)]; rfl
theorem num_ne_zero {m : Nat} (h : m = 1 ∨ m = 12 ∨ m = 59) : num 0 ≠ num m := by
  rw [num_zero]
  rcases h with rfl | rfl | rfl
  · have : num 1 = [49] := by unfold num; rw [Lib.decDigits, dif_pos (by omega)]; rfl
    rw [this]; decide
  · intro h
    have := congrArg List.length h
    unfold num at this
    rw [Lib.decDigits_length, Lib.nDigits_big (by omega), Lib.nDigits_small (by omega)] at this
    exact absurd this (by decide)
  · intro h
    have := congrArg List.length h
    unfold num at this
    rw [Lib.decDigits_length, Lib.nDigits_big (by omega), Lib.nDigits_small (by omega)] at this
    exact absurd this (by decide)
theorem cat_nil (s : ByteArray) : cat s ⟨#[]⟩ = s := by
  apply L_inj
  rw [L_cat]
  exact List.append_nil _
/-- The end of the law: a recovered log is a fixed point. -/
theorem Lines_last (s : ByteArray) (ok : Bool) (t : ByteArray) (hok : ok = false → s = tx []) : Ev (fun k => laws_FnLogLines.j1 k s ok (recR t).2.2.2.2 false (recR t).1 (recR t).2.1 (recR t).2.2.1) true := by
  have j2 : Ev (fun k => laws_FnLogLines.j2 k true) true := Ev.last fun k => rfl
  have e0 : (⟨#[]⟩ : ByteArray).size = 0 := rfl
  by_cases h : t.size ≤ 30000
  · have hv := rec_valid h
    have hE := endOf_le (L t)
    rw [L_len] at hE
    have hsz : (subs t 0 (endOf (L t))).size ≤ 30000 := by rw [subs_size _ _ _ (by omega) hE]; omega
    rw [show recR t = (subs t 0 (endOf (L t)), ⟨#[]⟩, ((all (L t)).length : Int), (endOf (L t) : Int), true) from if_pos h]
    generalize subs t 0 (endOf (L t)) = D at hv hsz
    generalize ((all (L t)).length : Int) = n at hv
    have sy := SyncLogI_ev D ⟨#[]⟩ n (by omega) (by rw [e0]; omega)
    rw [show syncR D ⟨#[]⟩ n = (cat D ⟨#[]⟩, ⟨#[]⟩, n, true) from if_pos hv, cat_nil] at sy
    have va := IsValidLogI_ev D ⟨#[]⟩ n (by omega) (by rw [e0]; omega)
    rw [decide_eq_true (show vlog (L D) (L ⟨#[]⟩) n from hv)] at va
    refine Ev.step (f := fun k => (impl_SyncLog.f k D ⟨#[]⟩ n).bind fun bt530 => (if true = true then (if bt530.2.2.2 = true then (if (bt530.1.toList == D.toList && (bt530.2.1.toList == (⟨#[]⟩ : ByteArray).toList && (bt530.2.2.1 == n))) = true then ((impl_IsValidLog.f k D ⟨#[]⟩ n).bind fun t535 => (if t535 = true then (if ok = true then (laws_FnLogLines.j2 k true) else (laws_FnLogLines.j2 k (s.toList == ([] : List UInt8)))) else (laws_FnLogLines.j2 k false))) else (laws_FnLogLines.j2 k false)) else (laws_FnLogLines.j2 k false)) else (laws_FnLogLines.j2 k true))) (fun k => ?_) ?_
    · simp only [laws_FnLogLines.j1]
      rw [if_neg (by simp)]
    · refine Ev.bind sy (Ev.pos rfl (Ev.pos rfl (Ev.pos (by simp) (Ev.bind va (Ev.pos rfl ?_)))))
      cases ok with
      | true => exact Ev.pos rfl j2
      | false =>
        refine Ev.neg (by simp) ?_
        have : (s.toList == ([] : List UInt8)) = true := by rw [hok rfl, toList_L, L_tx]; rfl
        rw [this]
        exact j2
  · rw [show recR t = (⟨#[]⟩, ⟨#[]⟩, 0, 0, false) from if_neg h]
    have sy := SyncLogI_ev ⟨#[]⟩ ⟨#[]⟩ 0 (by rw [e0]; omega) (by rw [e0]; omega)
    refine Ev.step (f := fun k => (impl_SyncLog.f k ⟨#[]⟩ ⟨#[]⟩ 0).bind fun bt530 => (if false = true then (if bt530.2.2.2 = true then (if (bt530.1.toList == (⟨#[]⟩ : ByteArray).toList && (bt530.2.1.toList == (⟨#[]⟩ : ByteArray).toList && (bt530.2.2.1 == 0))) = true then ((impl_IsValidLog.f k ⟨#[]⟩ ⟨#[]⟩ 0).bind fun t535 => (if t535 = true then (if ok = true then (laws_FnLogLines.j2 k true) else (laws_FnLogLines.j2 k (s.toList == ([] : List UInt8)))) else (laws_FnLogLines.j2 k false))) else (laws_FnLogLines.j2 k false)) else (laws_FnLogLines.j2 k false)) else (laws_FnLogLines.j2 k true))) (fun k => ?_) ?_
    · simp only [laws_FnLogLines.j1]
      rw [if_neg (by simp)]
    · exact Ev.bind sy (Ev.neg (by simp) j2)
theorem FnLogLines_pure (l : List Int) (hb : ∀ x ∈ l, 0 ≤ x ∧ x ≤ 255) : Ev (fun k => laws_FnLogLines.f k l) true := by
  unfold laws_FnLogLines.f laws_vBig.f
  refine Ev.bindc rfl ?_
  by_cases hbig : (l.length : Int) > 65536
  · exact Ev.pos (decide_eq_true hbig) (Ev.const rfl)
  have hl : isCode l := ⟨hb, by omega⟩
  obtain ⟨k, c, r, e1, hk, sc, sr⟩ := DrawEncodeRecord_ok l hl
  obtain ⟨t, e2, st⟩ := DrawRecoverLog_ok l hl
  have en1 : Ev (fun n => impl_EncodeRecord.f n k c r) (encR k c r) := EncodeRecord_ev k c r (by omega) (by omega)
  have en2 := EncodeRecordS_ev k c r (by omega) (by omega)
  have r1 := RecoverLogI_ev t
  have r2 := RecoverLogS_ev t
  have hq : (!((recR t).1.toList == (recR t).1.toList) || (!((recR t).2.1.toList == (recR t).2.1.toList) || (!((recR t).2.2.1 == (recR t).2.2.1)))) = false := by simp
  refine Ev.neg (by simpa using hbig) (Ev.bindc e1 (Ev.bind en1 (Ev.bind en2 (Ev.bind e2 (Ev.bind r1 (Ev.bind r2 (Ev.pos rfl (Ev.neg (by simp) (Ev.neg (by rw [hq]; simp) (Ev.pos rfl ?_))))))))))
  have hb0 : ((recR t).2.2.2.2 != (recR t).2.2.2.2) = false := by simp
  rw [hb0]
  have rs := RecoverLogI_ev (encR k c r).1
  refine Ev.step (f := fun n => (impl_RecoverLog.f n (encR k c r).1).bind fun bt524 => (if (encR k c r).2 = true then (if ((decide (bt524.2.2.2.1 > 0)) != (k == 0)) = true then (laws_FnLogLines.j1 n (encR k c r).1 (encR k c r).2 (recR t).2.2.2.2 true (recR t).1 (recR t).2.1 (recR t).2.2.1) else (if k = 0 then (laws_FnLogLines.j1 n (encR k c r).1 (encR k c r).2 (recR t).2.2.2.2 (bt524.2.2.1 != 1) (recR t).1 (recR t).2.1 (recR t).2.2.1) else (laws_FnLogLines.j1 n (encR k c r).1 (encR k c r).2 (recR t).2.2.2.2 false (recR t).1 (recR t).2.1 (recR t).2.2.1))) else (laws_FnLogLines.j1 n (encR k c r).1 (encR k c r).2 (recR t).2.2.2.2 false (recR t).1 (recR t).2.1 (recR t).2.2.1))) (fun n => ?_) ?_
  · simp only [laws_FnLogLines.j0]
    rw [if_neg (by simp)]
  refine Ev.bind rs ?_
  by_cases hg : (0 ≤ k ∧ k ≤ 59) ∧ Rec.good ⟨L c, L r⟩
  · rw [show encR k c r = (tx (line k.toNat ⟨L c, L r⟩), true) from if_pos hg]
    have last := Lines_last (tx (line k.toNat ⟨L c, L r⟩)) true t (fun h => by simp at h)
    have hlen := line_len hg.2 (show k.toNat < 1000000 by omega)
    have hr : recR (tx (line k.toNat ⟨L c, L r⟩)) = (subs (tx (line k.toNat ⟨L c, L r⟩)) 0 (endOf (line k.toNat ⟨L c, L r⟩)), ⟨#[]⟩, ((all (line k.toNat ⟨L c, L r⟩)).length : Int), (endOf (line k.toNat ⟨L c, L r⟩) : Int), true) := by
      have := show recR (tx (line k.toNat ⟨L c, L r⟩)) = _ from if_pos (show (tx (line k.toNat ⟨L c, L r⟩)).size ≤ 30000 by rw [tx_size]; omega)
      rw [this, L_tx]
    rw [hr]
    refine Ev.pos rfl ?_
    by_cases h0 : k = 0
    · subst h0
      have ht : text 0 [(⟨L c, L r⟩ : Rec)] = line 0 ⟨L c, L r⟩ := by simp [text]
      have ha : all (line (0 : Int).toNat ⟨L c, L r⟩) = [⟨L c, L r⟩] := by
        have := all_of_text [(⟨L c, L r⟩ : Rec)] (fun e he => by rw [List.mem_singleton.1 he]; exact hg.2) (by simp)
        rw [ht] at this
        exact this
      have he : endOf (line (0 : Int).toNat ⟨L c, L r⟩) = (line 0 ⟨L c, L r⟩).length := by
        unfold endOf
        rw [ha, ht]
      have hp := line_pos 0 ⟨L c, L r⟩
      refine Ev.neg ?_ (Ev.pos rfl ?_)
      · show ¬ ((decide ((endOf (line (0 : Int).toNat ⟨L c, L r⟩) : Int) > 0)) != ((0 : Int) == 0)) = true
        rw [he, decide_eq_true (by omega)]
        simp
      · have : ((((all (line (0 : Int).toNat ⟨L c, L r⟩)).length : Int)) != 1) = false := by rw [ha]; rfl
        show Ev (fun n => laws_FnLogLines.j1 n _ true (recR t).2.2.2.2 ((((all (line (0 : Int).toNat ⟨L c, L r⟩)).length : Int)) != 1) (recR t).1 (recR t).2.1 (recR t).2.2.1) true
        rw [this]
        exact last
    · have hm : k.toNat = 1 ∨ k.toNat = 12 ∨ k.toNat = 59 := by
        simp only [List.mem_cons, List.not_mem_nil, or_false] at hk
        omega
      have hf : first 0 (line k.toNat ⟨L c, L r⟩) = none := by
        cases hf : first 0 (line k.toNat ⟨L c, L r⟩) with
        | none => rfl
        | some e' => exact absurd (first_line hg.2 hf) (num_ne_zero hm)
      have ha : all (line k.toNat ⟨L c, L r⟩) = [] := recs_none hf
      have he : endOf (line k.toNat ⟨L c, L r⟩) = 0 := by unfold endOf; rw [ha]; rfl
      refine Ev.neg ?_ (Ev.neg h0 last)
      show ¬ ((decide ((endOf (line k.toNat ⟨L c, L r⟩) : Int) > 0)) != (k == 0)) = true
      rw [he, decide_eq_false (by omega)]
      have : (k == 0) = false := by simpa using h0
      rw [this]
      simp
  · rw [show encR k c r = (tx [], false) from if_neg hg]
    exact Ev.neg (by simp) (Lines_last (tx []) false t fun _ => rfl)
end Go.Proofs.YtokmidpeeejahaaDoor.G
