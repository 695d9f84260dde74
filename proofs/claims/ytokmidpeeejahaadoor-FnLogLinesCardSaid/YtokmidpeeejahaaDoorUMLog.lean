/- The plain mathematics of the log: lines, their reading, and the log's records, over lists of bytes. -/
import Derived.Lib.IndexMore
import Derived.Lib.ItoaNum
namespace Go.Proofs.YtokmidpeeejahaaDoor.LogM
open Go.Lib

/-! ### Cutting at one byte -/
def upto (b : UInt8) : List UInt8 → List UInt8
  | [] => []
  | a :: l => if a = b then [] else a :: upto b l
def past (b : UInt8) : List UInt8 → List UInt8
  | [] => []
  | a :: l => if a = b then l else past b l

theorem upto_nin (b : UInt8) (s : List UInt8) : b ∉ upto b s := by
  induction s with
  | nil => simp [upto]
  | cons a l ih =>
    by_cases e : a = b
    · simp [upto, e]
    · have e' : ¬ b = a := fun h => e h.symm
      simp [upto, e, e', ih]
theorem upto_app {b : UInt8} {x y : List UInt8} (h : b ∉ x) : upto b (x ++ b :: y) = x := by
  induction x with
  | nil => simp [upto]
  | cons a l ih =>
    have e : ¬ a = b := fun e => h (by simp [e])
    simp only [List.cons_append, upto, e, if_false]
    rw [ih (fun q => h (List.mem_cons_of_mem _ q))]
theorem past_app {b : UInt8} {x y : List UInt8} (h : b ∉ x) : past b (x ++ b :: y) = y := by
  induction x with
  | nil => simp [past]
  | cons a l ih =>
    have e : ¬ a = b := fun e => h (by simp [e])
    simp only [List.cons_append, past, e, if_false]
    exact ih (fun q => h (List.mem_cons_of_mem _ q))
theorem upto_none {b : UInt8} {x : List UInt8} (h : b ∉ x) : upto b x = x := by
  induction x with
  | nil => simp [upto]
  | cons a l ih =>
    have e : ¬ a = b := fun e => h (by simp [e])
    simp only [upto, e, if_false]
    rw [ih (fun q => h (List.mem_cons_of_mem _ q))]
theorem past_none {b : UInt8} {x : List UInt8} (h : b ∉ x) : past b x = [] := by
  induction x with
  | nil => simp [past]
  | cons a l ih =>
    have e : ¬ a = b := fun e => h (by simp [e])
    simp only [past, e, if_false]
    exact ih (fun q => h (List.mem_cons_of_mem _ q))
theorem upto_cons_ne {a b : UInt8} {l : List UInt8} (h : a ≠ b) : upto b (a :: l) = a :: upto b l := by simp [upto, h]
theorem upto_cons_eq {b : UInt8} {l : List UInt8} : upto b (b :: l) = [] := by simp [upto]
theorem upto_past {b : UInt8} {s : List UInt8} (h : b ∈ s) : s = upto b s ++ b :: past b s := by
  induction s with
  | nil => cases h
  | cons a l ih =>
    by_cases e : a = b
    · subst e; simp [upto, past]
    · have hl : b ∈ l := by
        rcases List.mem_cons.1 h with h | h
        · exact absurd h.symm e
        · exact h
      have := ih hl
      simp only [upto, past, e, if_false, List.cons_append]
      exact congrArg _ this

/-- 'index' of one byte. -/
theorem index_one (b : UInt8) : ∀ s : List UInt8, index s [b] = if b ∈ s then ((upto b s).length : Int) else -1
  | [] => by simp [index]
  | a :: l => by
    by_cases e : a = b
    · subst e; simp [index, upto_cons_eq]
    · have ih := index_one b l
      have e' : ¬ b = a := fun h => e h.symm
      simp only [index, List.isPrefixOf, List.mem_cons, e', false_or, upto_cons_ne e]
      have : (b == a) = false := by simpa using e'
      simp only [this, Bool.false_and]
      rw [ih]
      by_cases hb : b ∈ l
      · simp [hb]
      · simp [hb]
theorem contains_one (b : UInt8) (s : List UInt8) : contains s [b] = decide (b ∈ s) := by
  unfold contains
  rw [index_one]
  by_cases h : b ∈ s <;> simp [h]
theorem cut_one_in {b : UInt8} {s : List UInt8} (h : b ∈ s) : cut s [b] = (upto b s, past b s, true) := by
  unfold cut
  rw [index_one, if_pos h, if_pos (by omega)]
  have e := upto_past h
  have e1 : (s.take (upto b s).length) = upto b s := by
    have : ∀ n, s.take n = (upto b s ++ b :: past b s).take n := fun n => by rw [← e]
    rw [this, List.take_left]
  have e2 : (s.drop ((upto b s).length + 1)) = past b s := by
    have : ∀ n, s.drop n = (upto b s ++ b :: past b s).drop n := fun n => by rw [← e]
    rw [this, ← List.drop_drop, List.drop_left]
    rfl
  simp only [Int.toNat_natCast, List.length_singleton, e1, e2]
theorem cut_one_out {b : UInt8} {s : List UInt8} (h : b ∉ s) : cut s [b] = (s, [], false) := by
  unfold cut
  rw [index_one, if_neg h, if_neg (by omega)]
/-- strings.Cut at one byte, the flag aside. -/
theorem cut_one (b : UInt8) (s : List UInt8) : (cut s [b]).1 = upto b s ∧ (cut s [b]).2.1 = past b s := by
  by_cases h : b ∈ s
  · rw [cut_one_in h]; exact ⟨rfl, rfl⟩
  · rw [cut_one_out h, upto_none h, past_none h]; exact ⟨rfl, rfl⟩

/-! ### The sealed line -/
def sumOf (s : List UInt8) : Nat := s.foldl (fun h c => (41 * h + c.toNat + 1) % 999979) 7
theorem sumOf_snoc (s : List UInt8) (c : UInt8) : sumOf (s ++ [c]) = (41 * sumOf s + c.toNat + 1) % 999979 := by simp [sumOf]
theorem sumOf_lt (s : List UInt8) : sumOf s < 999979 := by
  rcases List.eq_nil_or_concat s with rfl | ⟨l, c, rfl⟩
  · decide
  · rw [List.concat_eq_append, sumOf_snoc]; exact Nat.mod_lt _ (by decide)
def num (k : Nat) : List UInt8 := decDigits k
theorem itoa_num (k : Nat) : itoa (k : Int) = num k := by
  unfold itoa num
  rw [if_neg (by omega)]
  simp
theorem num_digit (k : Nat) : ∀ b ∈ num k, 48 ≤ b ∧ b ≤ 57 := by
  unfold num
  induction k using Nat.strongRecOn with
  | _ u ih =>
    intro b hb
    have key : ∀ n, n < 10 → (48 : UInt8) ≤ UInt8.ofNat (48 + n) ∧ UInt8.ofNat (48 + n) ≤ 57 := by decide
    by_cases h : u < 10
    · rw [decDigits, dif_pos h] at hb
      rw [List.mem_singleton.1 hb]
      exact key u h
    · rw [decDigits, dif_neg h] at hb
      rcases List.mem_append.1 hb with hb | hb
      · exact ih (u / 10) (by omega) b hb
      · rw [List.mem_singleton.1 hb]
        exact key _ (Nat.mod_lt _ (by decide))
theorem num_len_small {k : Nat} (h : k < 1000000) : (num k).length ≤ 6 := by
  unfold num
  rw [decDigits_length]
  have h1 : ∀ u, u < 10 → nDigits u = 1 := fun u h => nDigits_small h
  by_cases a : k < 10
  · rw [h1 _ a]; omega
  rw [nDigits_big a]
  by_cases a : k / 10 < 10
  · rw [h1 _ a]; omega
  rw [nDigits_big a]
  by_cases a : k / 10 / 10 < 10
  · rw [h1 _ a]; omega
  rw [nDigits_big a]
  by_cases a : k / 10 / 10 / 10 < 10
  · rw [h1 _ a]; omega
  rw [nDigits_big a]
  by_cases a : k / 10 / 10 / 10 / 10 < 10
  · rw [h1 _ a]; omega
  rw [nDigits_big a, h1 _ (by omega)]; omega
theorem num_nin {b : UInt8} (h : b < 48 ∨ 57 < b) (k : Nat) : b ∉ num k := by
  intro hb
  obtain ⟨h1, h2⟩ := num_digit k b hb
  simp only [UInt8.le_iff_toNat_le, UInt8.lt_iff_toNat_lt] at *
  omega
def sealed (s : List UInt8) : List UInt8 := s ++ 35 :: num (sumOf s)
def plain (b : UInt8) : Prop := 32 ≤ b ∧ b ≤ 126 ∧ b ≠ 35
instance (b : UInt8) : Decidable (plain b) := inferInstanceAs (Decidable (_ ∧ _ ∧ _))

structure Rec where
  c : List UInt8
  r : List UInt8
deriving DecidableEq
def Rec.good (e : Rec) : Prop := 1 ≤ e.c.length ∧ e.c.length ≤ 160 ∧ (∀ b ∈ e.c, plain b) ∧ 64 ∉ e.c ∧ e.r.length ≤ 200 ∧ ∀ b ∈ e.r, plain b
instance (e : Rec) : Decidable e.good := inferInstanceAs (Decidable (_ ∧ _ ∧ _ ∧ _ ∧ _ ∧ _))
def body (k : Nat) (e : Rec) : List UInt8 := num k ++ 32 :: (e.c ++ 64 :: e.r)
def line (k : Nat) (e : Rec) : List UInt8 := sealed (body k e) ++ [10]

theorem body_plain {k : Nat} {e : Rec} (h : e.good) : ∀ b ∈ body k e, 32 ≤ b ∧ b ≤ 126 ∧ b ≠ 35 := by
  intro b hb
  have hd : ∀ b ∈ num k, 32 ≤ b ∧ b ≤ 126 ∧ b ≠ 35 := by
    intro b hb
    obtain ⟨h1, h2⟩ := num_digit k b hb
    refine ⟨?_, ?_, ?_⟩
    · simp only [UInt8.le_iff_toNat_le] at *; have : (48 : UInt8).toNat = 48 := rfl; have : (32 : UInt8).toNat = 32 := rfl; omega
    · simp only [UInt8.le_iff_toNat_le] at *; have : (57 : UInt8).toNat = 57 := rfl; have : (126 : UInt8).toNat = 126 := rfl; omega
    · rintro rfl; simp only [UInt8.le_iff_toNat_le] at h1; have : (48 : UInt8).toNat = 48 := rfl; have : (35 : UInt8).toNat = 35 := rfl; omega
  rcases List.mem_append.1 hb with hb | hb
  · exact hd b hb
  rcases List.mem_cons.1 hb with rfl | hb
  · decide
  rcases List.mem_append.1 hb with hb | hb
  · exact h.2.2.1 b hb
  rcases List.mem_cons.1 hb with rfl | hb
  · decide
  · exact h.2.2.2.2.2 b hb
theorem body_nin35 {k : Nat} {e : Rec} (h : e.good) : 35 ∉ body k e := fun hb => (body_plain h _ hb).2.2 rfl
theorem body_nin10 {k : Nat} {e : Rec} (h : e.good) : 10 ∉ body k e := fun hb => absurd (body_plain h _ hb).1 (by decide)
theorem body_len {k : Nat} {e : Rec} (h : e.good) (hk : k < 1000000) : (body k e).length ≤ 368 := by
  have := num_len_small hk
  have h1 := h.2.1
  have h2 := h.2.2.2.2.1
  simp only [body, List.length_append, List.length_cons]
  omega
theorem seal_nin10 {s : List UInt8} (h : 10 ∉ s) : 10 ∉ sealed s := by
  intro hb
  rcases List.mem_append.1 hb with hb | hb
  · exact h hb
  rcases List.mem_cons.1 hb with hb | hb
  · exact absurd hb (by decide)
  · exact num_nin (.inl (by decide)) _ hb
theorem seal_len (s : List UInt8) : (sealed s).length ≤ s.length + 7 := by
  have := num_len_small (show sumOf s < 1000000 by have := sumOf_lt s; omega)
  simp only [sealed, List.length_append, List.length_cons]
  omega
theorem line_len {k : Nat} {e : Rec} (h : e.good) (hk : k < 1000000) : (line k e).length ≤ 376 := by
  have h1 := body_len h hk
  have h2 := seal_len (body k e)
  simp only [line, List.length_append, List.length_singleton]
  omega
theorem line_pos (k : Nat) (e : Rec) : 0 < (line k e).length := by simp [line]
theorem line_upto {k : Nat} {e : Rec} (h : e.good) (t : List UInt8) : upto 10 (line k e ++ t) = sealed (body k e) := by
  have : line k e ++ t = sealed (body k e) ++ 10 :: t := by simp [line]
  rw [this, upto_app (seal_nin10 (body_nin10 h))]
theorem seal_upto {s : List UInt8} (h : 35 ∉ s) : upto 35 (sealed s) = s := upto_app h
theorem body_past {k : Nat} {e : Rec} : past 32 (body k e) = e.c ++ 64 :: e.r := past_app (num_nin (.inl (by decide)) k)
theorem body_drop {k : Nat} {e : Rec} : (body k e).drop ((num k).length + 1) = e.c ++ 64 :: e.r := by simp [body]
theorem good_upto {e : Rec} (h : e.good) : upto 64 (e.c ++ 64 :: e.r) = e.c := upto_app h.2.2.2.1
theorem good_past {e : Rec} (h : e.good) : past 64 (e.c ++ 64 :: e.r) = e.r := past_app h.2.2.2.1

/-- The record that a text would begin with. -/
def peek (s : List UInt8) : Rec := ⟨upto 64 (past 32 (upto 35 (upto 10 s))), past 64 (past 32 (upto 35 (upto 10 s)))⟩
theorem peek_of {k : Nat} {e : Rec} (h : e.good) {s : List UInt8} (hp : line k e <+: s) : peek s = e := by
  obtain ⟨t, rfl⟩ := hp
  unfold peek
  rw [line_upto h, seal_upto (body_nin35 h), body_past, good_upto h, good_past h]
/-- The record number k in front of a text, if there is one. -/
def first (k : Nat) (s : List UInt8) : Option Rec := if (peek s).good ∧ line k (peek s) <+: s then some (peek s) else none
theorem first_some {k : Nat} {s : List UInt8} {e : Rec} : first k s = some e ↔ e.good ∧ line k e <+: s := by
  unfold first
  constructor
  · intro h
    split at h
    · injection h with h; subst h; assumption
    · cases h
  · rintro ⟨h1, h2⟩
    have := peek_of h1 h2
    rw [if_pos (by rw [this]; exact ⟨h1, h2⟩), this]
theorem first_none {k : Nat} {s : List UInt8} : first k s = none ↔ ∀ e : Rec, e.good → ¬ line k e <+: s := by
  constructor
  · intro h e h1 h2
    rw [first_some.2 ⟨h1, h2⟩] at h
    cases h
  · intro h
    cases hf : first k s with
    | none => rfl
    | some e => exact absurd (first_some.1 hf).2 (h e (first_some.1 hf).1)
/-! ### All records -/
/-- The records in front of a text, from number k on, n at most. -/
def recs : Nat → Nat → List UInt8 → List Rec
  | 0, _, _ => []
  | n + 1, k, s => match first k s with
    | none => []
    | some e => e :: recs n (k + 1) (s.drop (line k e).length)
/-- The text of records. -/
def text : Nat → List Rec → List UInt8
  | _, [] => []
  | k, e :: l => line k e ++ text (k + 1) l
theorem text_append (k : Nat) (l m : List Rec) : text k (l ++ m) = text k l ++ text (k + l.length) m := by
  induction l generalizing k with
  | nil => simp [text]
  | cons e l ih => simp only [List.cons_append, text, ih, List.append_assoc, List.length_cons]; rw [show k + 1 + l.length = k + (l.length + 1) by omega]
theorem recs_good (n k : Nat) (s : List UInt8) : ∀ e ∈ recs n k s, e.good := by
  induction n generalizing k s with
  | zero => intro e h; cases h
  | succ n ih =>
    intro e h
    unfold recs at h
    split at h
    · cases h
    · rename_i x hx
      rcases List.mem_cons.1 h with rfl | h
      · exact (first_some.1 hx).1
      · exact ih _ _ e h
theorem recs_length (n k : Nat) (s : List UInt8) : (recs n k s).length ≤ n := by
  induction n generalizing k s with
  | zero => simp [recs]
  | succ n ih =>
    unfold recs
    split
    · simp
    · simp only [List.length_cons]; exact Nat.succ_le_succ (ih _ _)
theorem recs_prefix (n k : Nat) (s : List UInt8) : text k (recs n k s) <+: s := by
  induction n generalizing k s with
  | zero => simp [recs, text]
  | succ n ih =>
    unfold recs
    split
    · simp [text]
    · rename_i e he
      obtain ⟨t, ht⟩ := (first_some.1 he).2
      have := ih (k + 1) (s.drop (line k e).length)
      rw [← ht]
      simp only [text, List.drop_left]
      rw [← ht, List.drop_left] at this
      exact List.prefix_append_right_inj _ |>.2 this
/-- What good records in front of a text are its first records. -/
theorem recs_of (l : List Rec) (hl : ∀ e ∈ l, e.good) (n k : Nat) (t : List UInt8) (hn : l.length ≤ n) : recs n k (text k l ++ t) = l ++ recs (n - l.length) (k + l.length) t := by
  induction l generalizing n k with
  | nil => simp [text]
  | cons e l ih =>
    cases n with
    | zero => simp at hn
    | succ n =>
      have he : first k (text k (e :: l) ++ t) = some e := first_some.2 ⟨hl e (List.mem_cons_self ..), by simp only [text, List.append_assoc]; exact List.prefix_append _ _⟩
      rw [recs, he]
      simp only [text, List.append_assoc, List.drop_left, List.cons_append, List.length_cons]
      rw [ih (fun x hx => hl x (List.mem_cons_of_mem _ hx)) n (k + 1) (by simpa using hn)]
      rw [show n + 1 - (l.length + 1) = n - l.length by omega, show k + 1 + l.length = k + (l.length + 1) by omega]
theorem recs_text (l : List Rec) (hl : ∀ e ∈ l, e.good) (n k : Nat) (hn : l.length ≤ n) : recs n k (text k l) = l := by
  have := recs_of l hl n k [] hn
  rw [List.append_nil] at this
  rw [this]
  have h0 : ∀ m j, recs m j [] = [] := by
    intro m j
    cases m with
    | zero => rfl
    | succ m =>
      unfold recs
      have : first j [] = none := first_none.2 fun e _ h => by have h1 := h.length_le; have h2 := line_pos j e; rw [List.length_nil] at h1; omega
      rw [this]
  rw [h0, List.append_nil]
/-- All records of a text (60 at most), and where they end. -/
def all (s : List UInt8) : List Rec := recs 60 0 s
def endOf (s : List UInt8) : Nat := (text 0 (all s)).length
theorem endOf_le (s : List UInt8) : endOf s ≤ s.length := (recs_prefix 60 0 s).length_le
theorem all_length (s : List UInt8) : (all s).length ≤ 60 := recs_length _ _ _
theorem all_good (s : List UInt8) : ∀ e ∈ all s, e.good := recs_good _ _ _
theorem all_text (s : List UInt8) : text 0 (all s) = s.take (endOf s) := by
  obtain ⟨t, ht⟩ := recs_prefix 60 0 s
  have : ∀ n, s.take n = (text 0 (all s) ++ t).take n := fun n => by
    show _ = (text 0 (recs 60 0 s) ++ t).take n
    rw [ht]
  rw [this, endOf, List.take_left]
theorem whole_text {s : List UInt8} (h : endOf s = s.length) : text 0 (all s) = s := by rw [all_text, h, List.take_length]
theorem all_of_text (l : List Rec) (hl : ∀ e ∈ l, e.good) (hn : l.length ≤ 60) : all (text 0 l) = l := recs_text l hl 60 0 hn
theorem endOf_text (l : List Rec) (hl : ∀ e ∈ l, e.good) (hn : l.length ≤ 60) : endOf (text 0 l) = (text 0 l).length := by unfold endOf; rw [all_of_text l hl hn]
/-- Two texts with a common front: as far as that reaches, their records are the same. -/
theorem all_take (s : List UInt8) : all (s.take (endOf s)) = all s := by
  rw [← all_text]; exact all_of_text _ (all_good s) (all_length s)
end Go.Proofs.YtokmidpeeejahaaDoor.LogM
