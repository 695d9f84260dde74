/- What the printed functions of the log come to: the program's log, and that it is the reference's. -/
import Derived.Test.YtokmidpeeejahaaDoorUMImpl
import Derived.Test.YtokmidpeeejahaaDoorUMOpen
import Derived.Test.YtokmidpeeejahaaDoorUGx6
import Derived.Test.YtokmidpeeejahaaDoorUGx7
namespace Go.Proofs.YtokmidpeeejahaaDoor.G
open Go.RowKit Go.Proofs.YtokmidpeeejahaaDoorW.PrintWords Go.Proofs.YtokmidpeeejahaaDoorW.PrintLast Go.Proofs.YtokmidpeeejahaaDoor.LogM
set_option linter.unusedVariables false
set_option linter.unusedSimpArgs false

/-- Where records end. -/
def ends : Nat → Nat → List Rec → List Int
  | _, _, [] => []
  | k, p, e :: l => ((p + (line k e).length : Nat) : Int) :: ends (k + 1) (p + (line k e).length) l
theorem ends_length (k p : Nat) (l : List Rec) : (ends k p l).length = l.length := by
  induction l generalizing k p with
  | nil => rfl
  | cons e l ih => simp [ends, ih]
theorem mem_ends {x : Int} {k p : Nat} {l : List Rec} : x ∈ ends k p l ↔ ∃ a b, l = a ++ b ∧ a ≠ [] ∧ x = ((p + (text k a).length : Nat) : Int) := by
  induction l generalizing k p with
  | nil =>
    simp only [ends, List.not_mem_nil, false_iff]
    rintro ⟨a, b, h, ha, _⟩
    exact ha (List.append_eq_nil_iff.1 h.symm).1
  | cons e l ih =>
    rw [ends, List.mem_cons, ih]
    constructor
    · rintro (rfl | ⟨a, b, rfl, ha, rfl⟩)
      · exact ⟨[e], l, rfl, by simp, by simp [text]⟩
      · exact ⟨e :: a, b, rfl, by simp, by simp only [text, List.length_append]; omega⟩
    · rintro ⟨a, b, h, ha, rfl⟩
      cases a with
      | nil => exact absurd rfl ha
      | cons e' a =>
        simp only [List.cons_append, List.cons.injEq] at h
        obtain ⟨rfl, rfl⟩ := h
        by_cases h0 : a = []
        · subst h0; left; simp [text]
        · right; exact ⟨a, b, rfl, h0, by simp only [text, List.length_append]; omega⟩
/-- The last of some ends. -/
def lastOf (x : Int) : List Int → Int
  | [] => x
  | y :: l => lastOf y l
theorem lastOf_ends (k p : Nat) (l : List Rec) : lastOf (p : Int) (ends k p l) = ((p + (text k l).length : Nat) : Int) := by
  induction l generalizing k p with
  | nil => simp [lastOf, ends, text]
  | cons e l ih => simp only [ends, lastOf, text, List.length_append, ih]; omega

theorem readLog_loop (s : ByteArray) (hs : s.size ≤ 1000000000) : ∀ (d k p : Nat) (out : List S40) (es : List Int), d + k = 60 → out.length = k → es.length = k → p ≤ s.size →
    Ev (fun n => impl_readLog.l0 n s out es (p : Int)) (out ++ (recs d k ((L s).drop p)).map toS, es ++ ends k p (recs d k ((L s).drop p))) := by
  intro d
  induction d with
  | zero =>
    intro k p out es hd ho he hp
    have hr : recs 0 k ((L s).drop p) = [] := rfl
    rw [hr]
    refine Ev.last fun n => ?_
    simp only [impl_readLog.l0]
    rw [if_neg (by omega)]
    simp [ends]
  | succ d ih =>
    intro k p out es hd ho he hp
    have hsub : subs s (p : Int).toNat s.size = tx ((L s).drop p) := by rw [subs_from]; simp
    have hdl : ((L s).drop p).length ≤ s.size := by rw [List.length_drop, L_len]; omega
    refine Ev.step (f := fun n => (impl_cutRecord.f n (subs s (p : Int).toNat s.size) (out.length : Int)).bind fun bt200 => (if bt200.2.2 = 0 then (some (out, es)) else (if out.length < 4398046511104 then (if es.length < 17592186044416 then (impl_readLog.l0 n s (out ++ [(⟨bt200.1, bt200.2.1⟩ : S40)]) (es ++ [wrap64 ((p : Int) + bt200.2.2)]) (wrap64 ((p : Int) + bt200.2.2))) else (none)) else (none)))) (fun n => ?_) ?_
    · simp only [impl_readLog.l0]
      rw [if_pos (by omega), if_pos (by omega), if_pos (by omega)]
    · rw [hsub]
      have cr := cutRecord_ev k (by omega) (tx ((L s).drop p)) (by rw [tx_size]; omega)
      rw [← ho, L_tx] at cr
      refine Ev.bind cr ?_
      rw [ho]
      cases hf : first k ((L s).drop p) with
      | none =>
        have h0 : cutR k ((L s).drop p) = (tx [], tx [], 0) := by unfold cutR; rw [hf]
        rw [h0]
        refine Ev.pos rfl (Ev.const ?_)
        rw [recs_none hf]
        simp [ends]
      | some e =>
        have h0 : cutR k ((L s).drop p) = (tx e.c, tx e.r, ((line k e).length : Int)) := by unfold cutR; rw [hf]
        have hl := line_pos k e
        have hle : (line k e).length ≤ s.size - p := by
          have := (first_some.1 hf).2.length_le
          rw [List.length_drop, L_len] at this
          exact this
        rw [h0]
        refine Ev.neg (by show ¬ ((line k e).length : Int) = 0; omega) (Ev.pos (by omega) (Ev.pos (by omega) ?_))
        show Ev (fun n => impl_readLog.l0 n s (out ++ [(⟨tx e.c, tx e.r⟩ : S40)]) (es ++ [wrap64 ((p : Int) + ((line k e).length : Int))]) (wrap64 ((p : Int) + ((line k e).length : Int)))) _
        rw [w64 (by omega) (by omega)]
        have := ih (k + 1) (p + (line k e).length) (out ++ [toS e]) (es ++ [((p + (line k e).length : Nat) : Int)]) (by omega) (by simp [ho]) (by simp [he]) (by omega)
        rw [← List.drop_drop] at this
        rw [recs_some hf, List.map_cons, ends]
        have e1 : (p : Int) + ((line k e).length : Int) = ((p + (line k e).length : Nat) : Int) := by omega
        rw [e1]
        have e3 : ∀ (Y : List S40), out ++ toS e :: Y = (out ++ [toS e]) ++ Y := by simp
        have e4 : ∀ (x : Int) (Y : List Int), es ++ x :: Y = (es ++ [x]) ++ Y := by simp
        rw [e3, e4 _ (ends _ _ _)]
        exact this
theorem readLog_ev (s : ByteArray) (hs : s.size ≤ 1000000000) : Ev (fun n => impl_readLog.f n s) ((all (L s)).map toS, ends 0 0 (all (L s))) := by
  have := readLog_loop s hs 60 0 0 [] [] rfl rfl rfl (by omega)
  simpa [impl_readLog.f, all] using this
theorem records_loop (rs : List S40) (es : List Int) (D P : ByteArray) (n : Int) (hes : es.length ≤ 60) (hD : D.size ≤ 1000000000) (hP : P.size ≤ 1000000000) : ∀ (d i : Nat) (x : Int) (b : Bool), i + d = es.length →
    Ev (fun k => impl_Log_records.l0 k rs x b es (es.length : Int) (i : Int) D P n)
      (rs, decide ((b = true ∨ (D.size : Int) ∈ es.drop i) ∧ lastOf x (es.drop i) = ((D.size + P.size : Nat) : Int) ∧ n = (rs.length : Int))) := by
  intro d
  induction d with
  | zero =>
    intro i x b hi
    have hd : es.drop i = [] := List.drop_eq_nil_of_le (by omega)
    rw [hd]
    refine Ev.last fun k => ?_
    simp only [impl_Log_records.l0]
    rw [if_neg (by omega), w64 (by omega) (by omega)]
    simp only [lastOf, List.not_mem_nil, or_false]
    by_cases hb : b = true
    · rw [if_pos hb]
      by_cases hx : x = ((D.size : Int) + (P.size : Int))
      · rw [if_pos hx]
        have : x = ((D.size + P.size : Nat) : Int) := by omega
        simp only [hb, this, true_and]
        have e : (n == (rs.length : Int)) = decide (n = (rs.length : Int)) := by rw [Bool.eq_iff_iff]; simp
        rw [e]
      · rw [if_neg hx, decide_eq_false (fun h => hx (by have := h.2.1; omega))]
    · rw [if_neg hb, decide_eq_false (fun h => hb h.1)]
  | succ d ih =>
    intro i x b hi
    have hlt : i < es.length := by omega
    have hdr : es.drop i = es[i] :: es.drop (i + 1) := List.drop_eq_getElem_cons hlt
    have hrd : rd es (i : Int) = es[i] := by
      unfold rd
      rw [Int.toNat_natCast, List.getD_eq_getElem?_getD, List.getElem?_eq_getElem hlt]; rfl
    have e1 : wrap64 ((i : Int) + 1) = ((i + 1 : Nat) : Int) := by rw [w64 (by omega) (by omega)]; omega
    by_cases hb : b = true
    · refine Ev.step (f := fun k => impl_Log_records.l0 k rs es[i] true es (es.length : Int) ((i + 1 : Nat) : Int) D P n) (fun k => ?_) ?_
      · simp only [impl_Log_records.l0]
        rw [if_pos (by omega), if_pos (by omega), if_pos (by omega), if_pos hb, hrd, e1]
      · have := ih (i + 1) es[i] true (by omega)
        rw [hdr, lastOf]
        have e : (decide ((b = true ∨ (D.size : Int) ∈ es[i] :: es.drop (i + 1)) ∧ lastOf es[i] (es.drop (i + 1)) = ((D.size + P.size : Nat) : Int) ∧ n = (rs.length : Int))) = decide ((true = true ∨ (D.size : Int) ∈ es.drop (i + 1)) ∧ lastOf es[i] (es.drop (i + 1)) = ((D.size + P.size : Nat) : Int) ∧ n = (rs.length : Int)) := by
          rw [decide_eq_decide]
          simp [hb]
        rw [e]
        exact this
    · refine Ev.step (f := fun k => impl_Log_records.l0 k rs es[i] (es[i] == (D.size : Int)) es (es.length : Int) ((i + 1 : Nat) : Int) D P n) (fun k => ?_) ?_
      · simp only [impl_Log_records.l0]
        rw [if_pos (by omega), if_pos (by omega), if_pos (by omega), if_neg hb, hrd, e1]
      · have := ih (i + 1) es[i] (es[i] == (D.size : Int)) (by omega)
        rw [hdr, lastOf]
        have e : (decide ((b = true ∨ (D.size : Int) ∈ es[i] :: es.drop (i + 1)) ∧ lastOf es[i] (es.drop (i + 1)) = ((D.size + P.size : Nat) : Int) ∧ n = (rs.length : Int))) = decide (((es[i] == (D.size : Int)) = true ∨ (D.size : Int) ∈ es.drop (i + 1)) ∧ lastOf es[i] (es.drop (i + 1)) = ((D.size + P.size : Nat) : Int) ∧ n = (rs.length : Int)) := by
          rw [decide_eq_decide, List.mem_cons]
          have c : ((D.size : Int) = es[i]) ↔ ((es[i] == (D.size : Int)) = true) := ⟨fun h => by rw [h]; exact beq_self_eq_true _, fun h => (beq_iff_eq.1 h).symm⟩
          simp only [hb, c, false_or, Bool.false_eq_true]
        rw [e]
        exact this
/-- Some end lies at the durable part's end just if that part is whole records. -/
theorem durable_iff (D P : List UInt8) : (D = [] ∨ ((D.length : Nat) : Int) ∈ ends 0 0 (all (D ++ P))) ↔ endOf D = D.length := by
  constructor
  · intro h
    obtain ⟨l, m, hlm, hl⟩ : ∃ l m, all (D ++ P) = l ++ m ∧ (text 0 l).length = D.length := by
      rcases h with rfl | h
      · exact ⟨[], _, rfl, rfl⟩
      · obtain ⟨a, b, h1, _, h2⟩ := mem_ends.1 h
        exact ⟨a, b, h1, by omega⟩
    have hp : text 0 (l ++ m) <+: D ++ P := by
      rw [← hlm]; exact recs_prefix 60 0 (D ++ P)
    have hp' : text 0 l <+: D ++ P := by
      rw [text_append] at hp
      exact (List.prefix_append _ _).trans hp
    have hD : text 0 l = D := by
      have h1 := List.prefix_iff_eq_take.1 hp'
      rw [hl, List.take_left] at h1
      exact h1
    have hg : ∀ e ∈ l, e.good := fun e he => all_good (D ++ P) e (by rw [hlm]; exact List.mem_append_left _ he)
    have hn : l.length ≤ 60 := by
      have := all_length (D ++ P)
      rw [hlm, List.length_append] at this
      omega
    have := endOf_text l hg hn
    rw [hD] at this
    exact this
  · intro h
    have hD := whole_text h
    have hx : all (D ++ P) = all D ++ recs (60 - (all D).length) (0 + (all D).length) P := by
      have := recs_of (all D) (all_good D) 60 0 P (all_length D)
      rw [hD] at this
      exact this
    by_cases h0 : all D = []
    · left
      rw [h0] at hD
      exact hD.symm
    · right
      rw [hx, mem_ends]
      refine ⟨_, _, rfl, h0, ?_⟩
      rw [hD]; omega
/-- What records answers. -/
theorem Log_records_ev (D P : ByteArray) (n : Int) (hD : D.size ≤ 140737488351232) (hP : P.size ≤ 140737488351232) :
    ∃ rs, Ev (fun k => impl_Log_records.f k D P n) (rs, decide (vlog (L D) (L P) n)) ∧ (vlog (L D) (L P) n → rs = (all (L D ++ L P)).map toS) := by
  unfold impl_Log_records.f
  have hw : wrap64 ((D.size : Int) + (P.size : Int)) = (D.size : Int) + (P.size : Int) := w64 (by omega) (by omega)
  by_cases hb : D.size + P.size ≤ 30000
  · refine ⟨(all (L D ++ L P)).map toS, ?_, fun _ => rfl⟩
    refine Ev.neg (by rw [hw]; omega) (Ev.pos (by omega) ?_)
    have r := readLog_ev (cat D P) (by rw [cat_size]; omega)
    rw [L_cat] at r
    refine Ev.bind r ?_
    have hle : (ends 0 0 (all (L D ++ L P))).length ≤ 60 := by rw [ends_length]; exact all_length _
    have l := records_loop ((all (L D ++ L P)).map toS) (ends 0 0 (all (L D ++ L P))) D P n hle (by omega) (by omega) _ 0 0 (D.toList == ([] : List UInt8)) (Nat.zero_add _)
    have e : decide (((D.toList == ([] : List UInt8)) = true ∨ (D.size : Int) ∈ (ends 0 0 (all (L D ++ L P))).drop 0) ∧ lastOf 0 ((ends 0 0 (all (L D ++ L P))).drop 0) = ((D.size + P.size : Nat) : Int) ∧ n = (((all (L D ++ L P)).map toS).length : Int)) = decide (vlog (L D) (L P) n) := by
      rw [decide_eq_decide, List.drop_zero, toList_L]
      have h1 := durable_iff (L D) (L P)
      have h2 := lastOf_ends 0 0 (all (L D ++ L P))
      rw [L_len] at h1
      have h3 : lastOf 0 (ends 0 0 (all (L D ++ L P))) = (endOf (L D ++ L P) : Int) := by
        rw [Nat.zero_add] at h2
        exact h2
      rw [h3, List.length_map]
      simp only [beq_iff_eq]
      rw [h1]
      unfold vlog
      rw [L_len, L_len]
      constructor
      · rintro ⟨a, b, c⟩; exact ⟨hb, by omega, a, c.symm⟩
      · rintro ⟨_, a, b, c⟩; exact ⟨b, by omega, c.symm⟩
    rw [e] at l
    exact l
  · refine ⟨[], Ev.pos (by rw [hw]; omega) (Ev.const ?_), fun h => absurd h.1 hb⟩
    rw [decide_eq_false (fun h => hb h.1)]
theorem IsValidLogI_ev (D P : ByteArray) (n : Int) (hD : D.size ≤ 140737488351232) (hP : P.size ≤ 140737488351232) : Ev (fun k => impl_IsValidLog.f k D P n) (decide (vlog (L D) (L P) n)) := by
  obtain ⟨rs, h, _⟩ := Log_records_ev D P n hD hP
  exact Ev.bind h (Ev.const rfl)
end Go.Proofs.YtokmidpeeejahaaDoor.G
