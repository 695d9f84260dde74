/- What the printed functions of the log come to: the reference's log. -/
import Derived.Test.YtokmidpeeejahaaDoorUMRead
import Derived.Test.YtokmidpeeejahaaDoorUGx5
namespace Go.Proofs.YtokmidpeeejahaaDoor.G
open Go.RowKit Go.Proofs.YtokmidpeeejahaaDoorW.PrintWords Go.Proofs.YtokmidpeeejahaaDoorW.PrintLast Go.Proofs.YtokmidpeeejahaaDoor.LogM
set_option linter.unusedVariables false
set_option linter.unusedSimpArgs false

def toS (e : Rec) : S40 := ⟨tx e.c, tx e.r⟩
theorem first_nil (k : Nat) : first k [] = none := first_none.2 fun e _ h => by
  have h1 := h.length_le
  have h2 := line_pos k e
  rw [List.length_nil] at h1
  omega
theorem recs_none {n k : Nat} {s : List UInt8} (h : first k s = none) : recs n k s = [] := by
  cases n with
  | zero => rfl
  | succ n => unfold recs; rw [h]
theorem recs_some {n k : Nat} {s : List UInt8} {e : Rec} (h : first k s = some e) : recs (n + 1) k s = e :: recs n (k + 1) (s.drop (line k e).length) := by
  rw [recs, h]
theorem first_no10 {k : Nat} {s : List UInt8} (h : 10 ∉ s) : first k s = none := first_none.2 fun e _ hp => by
  obtain ⟨t, ht⟩ := hp
  apply h
  rw [← ht]
  simp [line]
theorem l27Open_loop (s : ByteArray) (hs : s.size ≤ 10000000000) : ∀ (d k p : Nat) (out : List S40), d + k = 60 → out.length = k → p ≤ s.size →
    Ev (fun n => spec_l27Open.l0 n s out (p : Int)) (out ++ (recs d k ((L s).drop p)).map toS, ((p + (text k (recs d k ((L s).drop p))).length : Nat) : Int)) := by
  intro d
  induction d with
  | zero =>
    intro k p out hd ho hp
    have hr : recs 0 k ((L s).drop p) = [] := rfl
    rw [hr]
    refine Ev.step (f := fun n => spec_l27Open.j1 n s out (p : Int) false) (fun n => ?_) (Ev.last fun n => ?_)
    · simp only [spec_l27Open.l0]
      by_cases h : (p : Int) < (s.size : Int)
      · rw [if_pos h, decide_eq_false (by omega)]
      · rw [if_neg h]
    · simp only [spec_l27Open.j1]
      rw [if_neg (by simp)]
      simp [text]
  | succ d ih =>
    intro k p out hd ho hp
    by_cases hlt : p < s.size
    · have hsub : subs s (p : Int).toNat s.size = tx ((L s).drop p) := by rw [subs_from]; simp
      have hdl : ((L s).drop p).length ≤ s.size := by rw [List.length_drop, L_len]; omega
      refine Ev.step (f := fun n => spec_l27Open.j1 n s out (p : Int) true) (fun n => ?_) ?_
      · simp only [spec_l27Open.l0]
        rw [if_pos (by omega), decide_eq_true (by omega)]
      generalize hD : (L s).drop p = D at hsub hdl ⊢
      refine Ev.step (f := fun n => (spec_l1Split.f n (tx D) 10).bind fun t137 => (if 0 < (t137.length : Int) then ((spec_l27Read.f n (rdOf ByteArray.empty t137 0) (out.length : Int)).bind fun bt141 => (if (t137.length : Int) < 2 then (some (out, (p : Int))) else (if bt141.2.2 = true then (if out.length < 4398046511104 then (spec_l27Open.l0 n s (out ++ [(⟨bt141.1, bt141.2.1⟩ : S40)]) (wrap64 ((wrap64 ((p : Int) + ((rdOf ByteArray.empty t137 0).size : Int))) + 1))) else (none)) else (some (out, (p : Int)))))) else (none))) (fun n => ?_) ?_
      · simp only [spec_l27Open.j1]
        rw [if_pos trivial, if_pos (by omega), if_pos (by omega), hsub]
      · refine Ev.bind (l1Split_ev (tx D) 10 10 rfl (by unfold small; rw [tx_size]; omega)) (Ev.pos (split_pos _ _) ?_)
        rw [split_rd, L_tx]
        have hul := upto_len 10 D
        have rd := l27Read_ev k (by omega) (tx (upto 10 D)) (by rw [tx_size]; omega)
        rw [L_tx] at rd
        rw [← ho] at rd
        refine Ev.bind rd ?_
        rw [ho]
        have h2 := splitL_two 10 D
        by_cases h10 : 10 ∈ D
        · have h2' := h2.2 h10
          refine Ev.neg (by rw [List.length_map]; omega) ?_
          have hn10 := upto_nin 10 D
          have hD' := upto_past h10
          have hf := readS_first k (upto 10 D) (past 10 D) hn10
          rw [← hD'] at hf
          by_cases hr : (readS k (upto 10 D)).2 = true
          · rw [if_pos hr] at hf
            refine Ev.pos hr (Ev.pos (by omega) ?_)
            have hl : line k (readS k (upto 10 D)).1 = upto 10 D ++ [10] := by
              have := readS_rec k (upto 10 D) (past 10 D) hn10 (readS k (upto 10 D)).1 (by rw [← hD']; exact hf)
              exact this.2
            have hll : (line k (readS k (upto 10 D)).1).length = (upto 10 D).length + 1 := by rw [hl]; simp
            rw [recs_some hf, hll]
            have hDl : D.length = s.size - p := by rw [← hD, List.length_drop, L_len]
            have hpl : (upto 10 D).length + 1 ≤ D.length := by
              have := congrArg List.length hD'
              simp at this
              omega
            rw [tx_size, w64 (x := (p : Int) + ((upto 10 D).length : Int)) (by omega) (by omega), w64 (by omega) (by omega)]
            have := ih (k + 1) (p + ((upto 10 D).length + 1)) (out ++ [⟨tx (readS k (upto 10 D)).1.c, tx (readS k (upto 10 D)).1.r⟩]) (by omega) (by simp [ho]) (by omega)
            rw [← List.drop_drop, hD] at this
            have e1 : ((p : Int) + ((upto 10 D).length : Int) + 1) = ((p + ((upto 10 D).length + 1) : Nat) : Int) := by omega
            rw [e1]
            have e2 : (text k ((readS k (upto 10 D)).1 :: recs d (k + 1) (D.drop ((upto 10 D).length + 1)))).length = (upto 10 D).length + 1 + (text (k + 1) (recs d (k + 1) (D.drop ((upto 10 D).length + 1)))).length := by
              simp only [text, List.length_append, hll]
            rw [e2, List.map_cons]
            generalize (text (k + 1) (recs d (k + 1) (D.drop ((upto 10 D).length + 1)))).length = T at this ⊢
            generalize (recs d (k + 1) (D.drop ((upto 10 D).length + 1))).map toS = Y at this ⊢
            have e3 : out ++ toS (readS k (upto 10 D)).1 :: Y = (out ++ [toS (readS k (upto 10 D)).1]) ++ Y := by simp
            have e4 : p + ((upto 10 D).length + 1 + T) = p + ((upto 10 D).length + 1) + T := by omega
            rw [e3, e4]
            exact this
          · rw [if_neg hr] at hf
            refine Ev.neg hr (Ev.const ?_)
            rw [recs_none hf]
            simp [text]
        · have h2' : ¬ 2 ≤ (splitL 10 D).length := fun h => h10 (h2.1 h)
          refine Ev.pos (by rw [List.length_map]; omega) (Ev.const ?_)
          rw [recs_none (first_no10 h10)]
          simp [text]
    · have hD : (L s).drop p = [] := List.drop_eq_nil_of_le (by rw [L_len]; omega)
      rw [hD, recs_none (first_nil k)]
      refine Ev.step (f := fun n => spec_l27Open.j1 n s out (p : Int) false) (fun n => ?_) (Ev.last fun n => ?_)
      · simp only [spec_l27Open.l0]
        rw [if_neg (by omega)]
      · simp only [spec_l27Open.j1]
        rw [if_neg (by simp)]
        simp [text]
theorem l27Open_ev (s : ByteArray) (hs : s.size ≤ 10000000000) : Ev (fun n => spec_l27Open.f n s) ((all (L s)).map toS, (endOf (L s) : Int)) := by
  have := l27Open_loop s hs 60 0 0 [] rfl rfl (by omega)
  simpa [spec_l27Open.f, all, endOf] using this
/-- A log's fields are those of a valid one. -/
def vlog (D P : List UInt8) (n : Int) : Prop := D.length + P.length ≤ 30000 ∧ endOf (D ++ P) = D.length + P.length ∧ endOf D = D.length ∧ ((all (D ++ P)).length : Int) = n
instance (D P : List UInt8) (n : Int) : Decidable (vlog D P n) := inferInstanceAs (Decidable (_ ∧ _ ∧ _ ∧ _))
theorem l27Log_ev (D P : ByteArray) (n : Int) (hD : D.size ≤ 140737488351232) (hP : P.size ≤ 140737488351232) : Ev (fun k => spec_l27Log.f k D P n) (decide (vlog (L D) (L P) n)) := by
  unfold spec_l27Log.f
  have hw : wrap64 ((D.size : Int) + (P.size : Int)) = (D.size : Int) + (P.size : Int) := w64 (by omega) (by omega)
  have j : ∀ b, Ev (fun k => spec_l27Log.j0 k b) b := fun b => Ev.last fun k => rfl
  by_cases hb : D.size + P.size ≤ 30000
  · refine Ev.neg (by rw [hw]; omega) (Ev.pos (by omega) (Ev.bind (l27Open_ev (cat D P) (by rw [cat_size]; omega)) (Ev.bind (l27Open_ev D (by omega)) ?_)))
    rw [L_cat, hw]
    have fin : ∀ b, (b = true ↔ vlog (L D) (L P) n) → Ev (fun k => spec_l27Log.j0 k b) (decide (vlog (L D) (L P) n)) := by
      intro b hb
      have : decide (vlog (L D) (L P) n) = b := by
        rw [Bool.eq_iff_iff, hb]
        simp
      rw [this]
      exact j b
    by_cases h1 : endOf (L D ++ L P) = D.size + P.size
    · refine Ev.pos (by omega) ?_
      by_cases h2 : endOf (L D) = D.size
      · refine Ev.pos (by omega) (fin _ ?_)
        simp only [List.length_map, beq_iff_eq, vlog]
        exact ⟨fun h => ⟨hb, h1, h2, h⟩, fun h => h.2.2.2⟩
      · refine Ev.neg (by omega) (fin _ ?_)
        simp only [Bool.false_eq_true, false_iff]
        exact fun h => h2 h.2.2.1
    · refine Ev.neg (by omega) (fin _ ?_)
      simp only [Bool.false_eq_true, false_iff]
      exact fun h => h1 h.2.1
  · refine Ev.pos (by rw [hw]; omega) (Ev.const (congrArg some ?_))
    symm
    exact decide_eq_false fun h => hb h.1
end Go.Proofs.YtokmidpeeejahaaDoor.G
