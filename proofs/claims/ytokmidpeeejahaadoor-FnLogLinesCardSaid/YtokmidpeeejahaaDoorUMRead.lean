/- What the printed functions of the log come to: the reference's reading of a log. -/
import Derived.Test.YtokmidpeeejahaaDoorUMBase
import Derived.Test.YtokmidpeeejahaaDoorUGx5
namespace Go.Proofs.YtokmidpeeejahaaDoor.G
open Go.RowKit Go.Proofs.YtokmidpeeejahaaDoorW.PrintWords Go.Proofs.YtokmidpeeejahaaDoorW.PrintLast Go.Proofs.YtokmidpeeejahaaDoor.LogM
set_option linter.unusedVariables false
set_option linter.unusedSimpArgs false

/-! ### Splitting at one byte -/
def splitL (b : UInt8) : List UInt8 → List (List UInt8)
  | [] => [[]]
  | a :: l => if a = b then [] :: splitL b l else match splitL b l with
    | [] => [[a]]
    | h :: t => (a :: h) :: t
theorem splitL_ne (b : UInt8) (l : List UInt8) : splitL b l ≠ [] := by
  cases l with
  | nil => simp [splitL]
  | cons a l =>
    unfold splitL
    split
    · simp
    · split <;> simp
/-- What is split, behind a piece that has begun. -/
def front (p : List UInt8) : List (List UInt8) → List (List UInt8)
  | [] => [p]
  | h :: t => (p ++ h) :: t
theorem front_eq (b a : UInt8) (p l : List UInt8) : front p (splitL b (a :: l)) = if a = b then p :: splitL b l else front (p ++ [a]) (splitL b l) := by
  by_cases h : a = b
  · rw [if_pos h]; simp [splitL, h, front]
  · rw [if_neg h]
    cases hs : splitL b l with
    | nil => exact absurd hs (splitL_ne b l)
    | cons x y => simp [splitL, h, hs, front]
theorem splitL_head (b : UInt8) (l : List UInt8) : (splitL b l).headD [] = upto b l := by
  induction l with
  | nil => rfl
  | cons a l ih =>
    by_cases h : a = b
    · simp [splitL, h, upto]
    · cases hs : splitL b l with
      | nil => exact absurd hs (splitL_ne b l)
      | cons x y =>
        rw [hs] at ih
        simp only [List.headD_cons] at ih
        simp [splitL, h, hs, upto, ih]
theorem splitL_two (b : UInt8) (l : List UInt8) : 2 ≤ (splitL b l).length ↔ b ∈ l := by
  induction l with
  | nil => simp [splitL]
  | cons a l ih =>
    by_cases h : a = b
    · subst h
      have : 0 < (splitL a l).length := List.length_pos_iff.2 (splitL_ne a l)
      simp [splitL]
      omega
    · have h' : ¬ b = a := fun e => h e.symm
      cases hs : splitL b l with
      | nil => exact absurd hs (splitL_ne b l)
      | cons x y =>
        rw [hs] at ih
        simp only [List.length_cons] at ih
        simp only [splitL, h, if_false, hs, List.length_cons, List.mem_cons, h', false_or]
        exact ih
theorem l1Split_loop (s : ByteArray) (b : UInt8) (hs : small s) : ∀ (d i fr : Nat) (out : List ByteArray), i + d = s.size → fr ≤ i → out.length ≤ fr →
    Ev (fun k => spec_l1Split.l0 k s (b.toNat : Int) out (fr : Int) (i : Int)) (out ++ (front (((L s).drop fr).take (i - fr)) (splitL b ((L s).drop i))).map tx) := by
  intro d
  have hs' := hs
  unfold small at hs'
  induction d with
  | zero =>
    intro i fr out hi hf ho
    refine Ev.last fun k => ?_
    simp only [spec_l1Split.l0]
    rw [if_neg (by omega), if_pos (by omega), if_pos (by omega), if_pos (by omega)]
    have : (L s).drop i = [] := List.drop_eq_nil_of_le (by rw [L_len]; omega)
    rw [this]
    simp only [splitL, front, List.append_nil, List.map_cons, List.map_nil, Int.toNat_natCast]
    rw [subs_from, List.take_of_length_le (by rw [List.length_drop, L_len]; omega)]
  | succ d ih =>
    intro i fr out hi hf ho
    have hlt : i < s.size := by omega
    have hb := bt_nat s i hlt
    rw [drop_cons s i hlt, front_eq]
    by_cases hc : (L s)[i]'hlt = b
    · rw [if_pos hc]
      refine Ev.step (f := fun k => spec_l1Split.l0 k s (b.toNat : Int) (out ++ [tx (((L s).drop fr).take (i - fr))]) ((i + 1 : Nat) : Int) ((i + 1 : Nat) : Int)) (fun k => ?_) ?_
      · simp only [spec_l1Split.l0]
        rw [if_pos (by omega), if_pos (by omega), if_pos (by rw [hb, hc]), if_pos (by omega), if_pos (by omega), if_pos (by omega), if_pos (by omega), w64 (by omega) (by omega)]
        have : subs s (fr : Int).toNat (i : Int).toNat = tx (((L s).drop fr).take (i - fr)) := by
          apply L_inj
          rw [L_subs, L_tx]
          simp
        rw [this]
        rfl
      · have := ih (i + 1) (i + 1) (out ++ [tx (((L s).drop fr).take (i - fr))]) (by omega) (by omega) (by simp; omega)
        have e : front (((L s).drop (i + 1)).take (i + 1 - (i + 1))) (splitL b ((L s).drop (i + 1))) = splitL b ((L s).drop (i + 1)) := by
          rw [Nat.sub_self]
          cases h : splitL b ((L s).drop (i + 1)) with
          | nil => exact absurd h (splitL_ne _ _)
          | cons x y => simp [front]
        rw [e] at this
        simpa using this
    · rw [if_neg hc]
      refine Ev.step (f := fun k => spec_l1Split.l0 k s (b.toNat : Int) out (fr : Int) ((i + 1 : Nat) : Int)) (fun k => ?_) ?_
      · simp only [spec_l1Split.l0]
        rw [if_pos (by omega), if_pos (by omega), if_neg (by rw [hb]; intro h; exact hc (UInt8.toNat_inj.1 (by omega))), w64 (by omega) (by omega)]
        rfl
      · have := ih (i + 1) fr out (by omega) (by omega) (by omega)
        have e : ((L s).drop fr).take (i + 1 - fr) = ((L s).drop fr).take (i - fr) ++ [(L s)[i]'hlt] := by
          rw [show i + 1 - fr = (i - fr) + 1 by omega, List.take_succ_eq_append_getElem (by rw [List.length_drop, L_len]; omega)]
          congr 2
          rw [List.getElem_drop]
          congr 1
          omega
        rw [e] at this
        exact this
theorem l1Split_ev (s : ByteArray) (b : UInt8) (n : Int) (hn : n = (b.toNat : Int)) (hs : small s) : Ev (fun k => spec_l1Split.f k s n) ((splitL b (L s)).map tx) := by
  subst hn
  have := l1Split_loop s b hs s.size 0 0 [] (by omega) (by omega) (by simp)
  have e : front (((L s).drop 0).take (0 - 0)) (splitL b ((L s).drop 0)) = splitL b (L s) := by
    rw [List.drop_zero]
    cases h : splitL b (L s) with
    | nil => exact absurd h (splitL_ne _ _)
    | cons x y => simp [front]
  rw [e] at this
  simpa [spec_l1Split.f] using this
theorem split_pos (b : UInt8) (l : List UInt8) : 0 < (((splitL b l).map tx).length : Int) := by
  have := List.length_pos_iff.2 (splitL_ne b l)
  rw [List.length_map]
  omega
theorem split_rd (b : UInt8) (l : List UInt8) : rdOf ByteArray.empty ((splitL b l).map tx) 0 = tx (upto b l) := by
  rw [rdOf_zero, ← splitL_head]
  cases h : splitL b l with
  | nil => exact absurd h (splitL_ne _ _)
  | cons x y => rfl

/-! ### A line, read -/
/-- What l27Read says of a line (its newline struck) at number k. -/
def readS (k : Nat) (l : List UInt8) : Rec × Bool :=
  if (num k ++ [32]) <+: upto 35 l then
    (if 64 ∈ (upto 35 l).drop ((num k).length + 1) then
      (⟨upto 64 ((upto 35 l).drop ((num k).length + 1)), past 64 ((upto 35 l).drop ((num k).length + 1))⟩,
        decide (Rec.good ⟨upto 64 ((upto 35 l).drop ((num k).length + 1)), past 64 ((upto 35 l).drop ((num k).length + 1))⟩ ∧ line k ⟨upto 64 ((upto 35 l).drop ((num k).length + 1)), past 64 ((upto 35 l).drop ((num k).length + 1))⟩ = l ++ [10]))
    else (⟨[], []⟩, false))
  else (⟨[], []⟩, false)
theorem upto_len (b : UInt8) (l : List UInt8) : (upto b l).length ≤ l.length := by
  induction l with
  | nil => simp [upto]
  | cons a l ih =>
    unfold upto
    split
    · simp
    · simp; exact ih
theorem upto_len_eq (b : UInt8) (l : List UInt8) : (upto b l).length = l.length ↔ b ∉ l := by
  constructor
  · intro h hb
    have := congrArg List.length (upto_past hb)
    simp at this
    omega
  · intro h; rw [upto_none h]
theorem past_drop {b : UInt8} {l : List UInt8} (h : b ∈ l) : l.drop ((upto b l).length + 1) = past b l := by
  have e := upto_past h
  have : ∀ n, l.drop n = (upto b l ++ b :: past b l).drop n := fun n => by rw [← e]
  rw [this, ← List.drop_drop, List.drop_left]
  rfl
theorem l27Read_ev (k : Nat) (hk : k < 1000000) (s : ByteArray) (hs : s.size ≤ 10000000000) :
    Ev (fun n => spec_l27Read.f n s (k : Int)) (tx (readS k (L s)).1.c, tx (readS k (L s)).1.r, (readS k (L s)).2) := by
  have hn := num_len_small hk
  have e1 : (⟨#[32]⟩ : ByteArray).size = 1 := rfl
  have hsm : small s := by unfold small; omega
  unfold spec_l27Read.f
  refine Ev.bindc (l1Num_eq k (by omega)) (Ev.pos (by rw [tx_size]; omega) (Ev.bind (l1Split_ev s 35 35 rfl hsm) (Ev.pos (split_pos _ _) ?_)))
  rw [split_rd]
  have ha : cat (tx (num k)) ⟨#[32]⟩ = tx (num k ++ [32]) := by
    apply L_inj
    rw [L_cat, L_tx, L_tx, L_one]
  rw [ha]
  have hal : (tx (num k ++ [32])).size = (num k).length + 1 := by rw [tx_size]; simp
  have htl : (tx (upto 35 (L s))).size = (upto 35 (L s)).length := tx_size _
  have hul := upto_len 35 (L s)
  rw [L_len] at hul
  -- what follows the test of the front
  have rest : ∀ q : Bool, (q = false ↔ (num k ++ [32]) <+: upto 35 (L s)) → Ev (fun n => spec_l27Read.j0 n s (k : Int) (tx (num k ++ [32])) (tx (upto 35 (L s))) q) (tx (readS k (L s)).1.c, tx (readS k (L s)).1.r, (readS k (L s)).2) := by
    intro q hq
    cases q with
    | true =>
      have hnp : ¬ (num k ++ [32]) <+: upto 35 (L s) := fun h => by have := hq.2 h; cases this
      refine Ev.last fun n => ?_
      simp only [spec_l27Read.j0, if_true]
      unfold readS
      rw [if_neg hnp]
      rfl
    | false =>
      have hp := hq.1 rfl
      have hle := hp.length_le
      rw [List.length_append, List.length_singleton] at hle
      obtain ⟨rst, hrst⟩ : ∃ rst, (upto 35 (L s)).drop ((num k).length + 1) = rst := ⟨_, rfl⟩
      have hrl : rst.length ≤ s.size := by rw [← hrst, List.length_drop]; omega
      have hsub : subs (tx (upto 35 (L s))) (tx (num k ++ [32])).size (tx (upto 35 (L s))).size = tx rst := by
        rw [subs_from, L_tx, hal, hrst]
      refine Ev.step (f := fun n => (spec_l1Split.f n (tx rst) 64).bind fun t127 => (if 0 < (t127.length : Int) then (if ((rdOf ByteArray.empty t127 0).size : Int) = ((tx rst).size : Int) then (some ((⟨#[]⟩ : ByteArray), (⟨#[]⟩ : ByteArray), false)) else (if 0 ≤ (wrap64 (((rdOf ByteArray.empty t127 0).size : Int) + 1)) then (if (wrap64 (((rdOf ByteArray.empty t127 0).size : Int) + 1)) ≤ ((tx rst).size : Int) then ((spec_l27Good.f n (rdOf ByteArray.empty t127 0) (subs (tx rst) ((wrap64 (((rdOf ByteArray.empty t127 0).size : Int) + 1)) : Int).toNat (tx rst).size)).bind fun t132 => (if t132 = true then ((spec_l27Line.f n (k : Int) (rdOf ByteArray.empty t127 0) (subs (tx rst) ((wrap64 (((rdOf ByteArray.empty t127 0).size : Int) + 1)) : Int).toNat (tx rst).size)).bind fun t133 => (if s.size + 1 ≤ 9223372036854775807 then (some (rdOf ByteArray.empty t127 0, subs (tx rst) ((wrap64 (((rdOf ByteArray.empty t127 0).size : Int) + 1)) : Int).toNat (tx rst).size, (t133.toList == (cat s (⟨#[10]⟩ : ByteArray)).toList))) else (none))) else (some (rdOf ByteArray.empty t127 0, subs (tx rst) ((wrap64 (((rdOf ByteArray.empty t127 0).size : Int) + 1)) : Int).toNat (tx rst).size, false)))) else (none)) else (none))) else (none))) (fun n => ?_) ?_
      · simp only [spec_l27Read.j0]
        rw [if_neg (by simp), if_pos (by omega), if_pos (by rw [hal, htl]; omega), hsub]
      · have hrs : (tx rst).size = rst.length := tx_size _
        have hrsm : small (tx rst) := by unfold small; rw [hrs]; omega
        refine Ev.bind (l1Split_ev (tx rst) 64 64 rfl hrsm) (Ev.pos (split_pos _ _) ?_)
        rw [split_rd, L_tx, tx_size, hrs]
        have hask := upto_len 64 rst
        by_cases h64 : 64 ∈ rst
        · have hne : ¬ (upto 64 rst).length = rst.length := fun h => (upto_len_eq 64 rst).1 h h64
          have hdr : subs (tx rst) ((wrap64 (((upto 64 rst).length : Int) + 1)) : Int).toNat (tx rst).size = tx (past 64 rst) := by
            rw [subs_from, L_tx, w64 (by omega) (by omega), show (((upto 64 rst).length : Int) + 1).toNat = (upto 64 rst).length + 1 by omega, past_drop h64]
          rw [hrs] at hdr
          have hpl : (past 64 rst).length ≤ rst.length := by rw [← past_drop h64, List.length_drop]; omega
          have hr : readS k (L s) = (⟨upto 64 rst, past 64 rst⟩, decide (Rec.good ⟨upto 64 rst, past 64 rst⟩ ∧ line k ⟨upto 64 rst, past 64 rst⟩ = L s ++ [10])) := by
            unfold readS
            rw [if_pos hp, hrst, if_pos h64]
          rw [hr]
          refine Ev.neg (by omega) (Ev.pos (by rw [w64 (by omega) (by omega)]; omega) (Ev.pos (by rw [w64 (by omega) (by omega)]; omega) ?_))
          rw [hdr]
          have g := l27Good_ev (tx (upto 64 rst)) (tx (past 64 rst)) (by unfold small; rw [tx_size]; omega) (by unfold small; rw [tx_size]; omega)
          rw [L_tx, L_tx] at g
          refine Ev.bind g ?_
          by_cases hg : Rec.good ⟨upto 64 rst, past 64 rst⟩
          · refine Ev.pos (by simpa using hg) ?_
            have ln := l27Line_ev k (by omega) (tx (upto 64 rst)) (tx (past 64 rst)) (by rw [tx_size]; omega) (by rw [tx_size]; omega)
            rw [L_tx, L_tx] at ln
            refine Ev.bind ln (Ev.pos (by omega) (Ev.const ?_))
            rw [toList_L, toList_L, L_tx, L_cat, L_one]
            congr 3
            rw [Bool.eq_iff_iff]
            simp [hg]
          · refine Ev.neg (by simpa using hg) (Ev.const ?_)
            congr 3
            symm
            exact decide_eq_false fun h => hg h.1
        · have he := (upto_len_eq 64 rst).2 h64
          refine Ev.pos (by rw [he]) (Ev.const ?_)
          unfold readS
          rw [if_pos hp, hrst, if_neg h64]
          rfl
  by_cases hlt : (upto 35 (L s)).length < (num k).length + 1
  · refine Ev.pos (by rw [hal, htl]; omega) (rest true ?_)
    constructor
    · intro h; cases h
    · intro h
      have := h.length_le
      simp at this
      omega
  · refine Ev.neg (by rw [hal, htl]; omega) (Ev.pos (by omega) (Ev.pos (by rw [hal, htl]; omega) (rest _ ?_)))
    rw [toList_L, toList_L, L_subs, L_tx, L_tx, hal]
    simp only [List.drop_zero, Nat.sub_zero]
    rw [bne_eq_false_iff_eq]
    constructor
    · intro h; rw [← h]; exact List.take_prefix _ _
    · rintro ⟨t, ht⟩
      have hl : (num k).length + 1 = (num k ++ [32]).length := by simp
      rw [← ht, hl, List.take_left]
/-- A line that is read is the first record of the text that begins with it. -/
theorem readS_first (k : Nat) (l t : List UInt8) (h10 : 10 ∉ l) : first k (l ++ 10 :: t) = if (readS k l).2 = true then some (readS k l).1 else none := by
  by_cases h : (readS k l).2 = true
  · rw [if_pos h]
    refine first_some.2 ?_
    unfold readS at h ⊢
    split at h
    · rename_i hp
      rw [if_pos hp]
      split at h
      · rename_i h64
        rw [if_pos h64]
        have h := of_decide_eq_true h
        exact ⟨h.1, ⟨t, by rw [h.2]; simp⟩⟩
      · cases h
    · cases h
  · rw [if_neg h]
    refine first_none.2 fun e he hl => h ?_
    obtain ⟨u, hu⟩ := hl
    have h1 : upto 10 (l ++ 10 :: t) = l := upto_app h10
    rw [← hu, line_upto he] at h1
    subst h1
    have h35 : upto 35 (sealed (body k e)) = body k e := seal_upto (body_nin35 he)
    unfold readS
    rw [h35]
    have hp : (num k ++ [32]) <+: body k e := ⟨e.c ++ 64 :: e.r, by simp [body]⟩
    rw [if_pos hp, body_drop, if_pos (by simp), good_upto he, good_past he]
    exact decide_eq_true ⟨he, rfl⟩
theorem readS_rec (k : Nat) (l t : List UInt8) (h10 : 10 ∉ l) (e : Rec) (h : first k (l ++ 10 :: t) = some e) : (readS k l) = (e, true) ∧ line k e = l ++ [10] := by
  rw [readS_first k l t h10] at h
  split at h
  · rename_i hr
    injection h with h
    refine ⟨by rw [← h, ← hr], ?_⟩
    have := hr
    rw [← h]
    unfold readS at this ⊢
    split at this
    · rename_i hp
      rw [if_pos hp]
      split at this
      · rename_i h64
        rw [if_pos h64]
        exact (of_decide_eq_true this).2
      · cases this
    · cases this
  · cases h
end Go.Proofs.YtokmidpeeejahaaDoor.G
