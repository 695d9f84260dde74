/- Texts of this seat, joined: what the claim's last text rests on. Some began as words of the kit's print; what is not needed is left out. -/
import Derived.Lib.IndexMore
import Derived.Lib.ItoaNum
import Derived.Test.YtokmidpeeejahaaDoorZm3
import Derived.Test.YtokmidpeeejahaaDoorZm4
import Derived.Test.YtokmidpeeejahaaDoorZm5
import Derived.Test.YtokmidpeeejahaaDoorCards
import Derived.Test.YtokmidpeeejahaaDoorTie
import Derived.WalkKit
import Derived.ProofKit
import Derived.OpenShut
import Derived.Deep.DeepHandedRow
import Derived.Lib.LaidTab
import Derived.Lib.SmallJoins
import Derived.Carry
import Derived.ShutString
import Derived.ChangeOld
import Derived.Shelf.Vars
/- The plain mathematics of the log: lines, their reading, and the log's records, over lists of bytes. -/
namespace Go.Proofs.YtokmidpeeejahaaDoor.LogM
open Go.Lib

/-! ### Cutting at one byte -/
def upto (b : UInt8) : List UInt8 → List UInt8
  | [] => []
  | a :: l => if a = b then [] else a :: upto b l
def past (b : UInt8) : List UInt8 → List UInt8
  | [] => []
  | a :: l => if a = b then l else past b l

theorem upto_nin (b : UInt8) (s : List UInt8) : b ∉ upto b s := by
  induction s with
  | nil => simp [upto]
  | cons a l ih =>
    by_cases e : a = b
    · simp [upto, e]
    · have e' : ¬ b = a := fun h => e h.symm
      simp [upto, e, e', ih]
theorem upto_app {b : UInt8} {x y : List UInt8} (h : b ∉ x) : upto b (x ++ b :: y) = x := by
  induction x with
  | nil => simp [upto]
  | cons a l ih =>
    have e : ¬ a = b := fun e => h (by simp [e])
    simp only [List.cons_append, upto, e, if_false]
    rw [ih (fun q => h (List.mem_cons_of_mem _ q))]
theorem past_app {b : UInt8} {x y : List UInt8} (h : b ∉ x) : past b (x ++ b :: y) = y := by
  induction x with
  | nil => simp [past]
  | cons a l ih =>
    have e : ¬ a = b := fun e => h (by simp [e])
    simp only [List.cons_append, past, e, if_false]
    exact ih (fun q => h (List.mem_cons_of_mem _ q))
theorem upto_none {b : UInt8} {x : List UInt8} (h : b ∉ x) : upto b x = x := by
  induction x with
  | nil => simp [upto]
  | cons a l ih =>
    have e : ¬ a = b := fun e => h (by simp [e])
    simp only [upto, e, if_false]
    rw [ih (fun q => h (List.mem_cons_of_mem _ q))]
theorem past_none {b : UInt8} {x : List UInt8} (h : b ∉ x) : past b x = [] := by
  induction x with
  | nil => simp [past]
  | cons a l ih =>
    have e : ¬ a = b := fun e => h (by simp [e])
    simp only [past, e, if_false]
    exact ih (fun q => h (List.mem_cons_of_mem _ q))
theorem upto_cons_ne {a b : UInt8} {l : List UInt8} (h : a ≠ b) : upto b (a :: l) = a :: upto b l := by simp [upto, h]
theorem upto_cons_eq {b : UInt8} {l : List UInt8} : upto b (b :: l) = [] := by simp [upto]
theorem upto_past {b : UInt8} {s : List UInt8} (h : b ∈ s) : s = upto b s ++ b :: past b s := by
  induction s with
  | nil => cases h
  | cons a l ih =>
    by_cases e : a = b
    · subst e; simp [upto, past]
    · have hl : b ∈ l := by
        rcases List.mem_cons.1 h with h | h
        · exact absurd h.symm e
        · exact h
      have := ih hl
      simp only [upto, past, e, if_false, List.cons_append]
      exact congrArg _ this

/-- 'index' of one byte. -/
theorem index_one (b : UInt8) : ∀ s : List UInt8, index s [b] = if b ∈ s then ((upto b s).length : Int) else -1
  | [] => by simp [index]
  | a :: l => by
    by_cases e : a = b
    · subst e; simp [index, upto_cons_eq]
    · have ih := index_one b l
      have e' : ¬ b = a := fun h => e h.symm
      simp only [index, List.isPrefixOf, List.mem_cons, e', false_or, upto_cons_ne e]
      have : (b == a) = false := by simpa using e'
      simp only [this, Bool.false_and]
      rw [ih]
      by_cases hb : b ∈ l
      · simp [hb]
      · simp [hb]
theorem contains_one (b : UInt8) (s : List UInt8) : contains s [b] = decide (b ∈ s) := by
  unfold contains
  rw [index_one]
  by_cases h : b ∈ s <;> simp [h]
theorem cut_one_in {b : UInt8} {s : List UInt8} (h : b ∈ s) : cut s [b] = (upto b s, past b s, true) := by
  unfold cut
  rw [index_one, if_pos h, if_pos (by omega)]
  have e := upto_past h
  have e1 : (s.take (upto b s).length) = upto b s := by
    have : ∀ n, s.take n = (upto b s ++ b :: past b s).take n := fun n => by rw [← e]
    rw [this, List.take_left]
  have e2 : (s.drop ((upto b s).length + 1)) = past b s := by
    have : ∀ n, s.drop n = (upto b s ++ b :: past b s).drop n := fun n => by rw [← e]
    rw [this, ← List.drop_drop, List.drop_left]
    rfl
  simp only [Int.toNat_natCast, List.length_singleton, e1, e2]
theorem cut_one_out {b : UInt8} {s : List UInt8} (h : b ∉ s) : cut s [b] = (s, [], false) := by
  unfold cut
  rw [index_one, if_neg h, if_neg (by omega)]
/-- strings.Cut at one byte, the flag aside. -/
theorem cut_one (b : UInt8) (s : List UInt8) : (cut s [b]).1 = upto b s ∧ (cut s [b]).2.1 = past b s := by
  by_cases h : b ∈ s
  · rw [cut_one_in h]; exact ⟨rfl, rfl⟩
  · rw [cut_one_out h, upto_none h, past_none h]; exact ⟨rfl, rfl⟩

/-! ### The sealed line -/
def sumOf (s : List UInt8) : Nat := s.foldl (fun h c => (41 * h + c.toNat + 1) % 999979) 7
theorem sumOf_snoc (s : List UInt8) (c : UInt8) : sumOf (s ++ [c]) = (41 * sumOf s + c.toNat + 1) % 999979 := by simp [sumOf]
theorem sumOf_lt (s : List UInt8) : sumOf s < 999979 := by
  rcases List.eq_nil_or_concat s with rfl | ⟨l, c, rfl⟩
  · decide
  · rw [List.concat_eq_append, sumOf_snoc]; exact Nat.mod_lt _ (by decide)
def num (k : Nat) : List UInt8 := decDigits k
theorem itoa_num (k : Nat) : itoa (k : Int) = num k := by
  unfold itoa num
  rw [if_neg (by omega)]
  simp
theorem num_digit (k : Nat) : ∀ b ∈ num k, 48 ≤ b ∧ b ≤ 57 := by
  unfold num
  induction k using Nat.strongRecOn with
  | _ u ih =>
    intro b hb
    have key : ∀ n, n < 10 → (48 : UInt8) ≤ UInt8.ofNat (48 + n) ∧ UInt8.ofNat (48 + n) ≤ 57 := by decide
    by_cases h : u < 10
    · rw [decDigits, dif_pos h] at hb
      rw [List.mem_singleton.1 hb]
      exact key u h
    · rw [decDigits, dif_neg h] at hb
      rcases List.mem_append.1 hb with hb | hb
      · exact ih (u / 10) (by omega) b hb
      · rw [List.mem_singleton.1 hb]
        exact key _ (Nat.mod_lt _ (by decide))
theorem num_len_small {k : Nat} (h : k < 1000000) : (num k).length ≤ 6 := by
  unfold num
  rw [decDigits_length]
  have h1 : ∀ u, u < 10 → nDigits u = 1 := fun u h => nDigits_small h
  by_cases a : k < 10
  · rw [h1 _ a]; omega
  rw [nDigits_big a]
  by_cases a : k / 10 < 10
  · rw [h1 _ a]; omega
  rw [nDigits_big a]
  by_cases a : k / 10 / 10 < 10
  · rw [h1 _ a]; omega
  rw [nDigits_big a]
  by_cases a : k / 10 / 10 / 10 < 10
  · rw [h1 _ a]; omega
  rw [nDigits_big a]
  by_cases a : k / 10 / 10 / 10 / 10 < 10
  · rw [h1 _ a]; omega
  rw [nDigits_big a, h1 _ (by omega)]; omega
theorem num_nin {b : UInt8} (h : b < 48 ∨ 57 < b) (k : Nat) : b ∉ num k := by
  intro hb
  obtain ⟨h1, h2⟩ := num_digit k b hb
  simp only [UInt8.le_iff_toNat_le, UInt8.lt_iff_toNat_lt] at *
  omega
def sealed (s : List UInt8) : List UInt8 := s ++ 35 :: num (sumOf s)
def plain (b : UInt8) : Prop := 32 ≤ b ∧ b ≤ 126 ∧ b ≠ 35
instance (b : UInt8) : Decidable (plain b) := inferInstanceAs (Decidable (_ ∧ _ ∧ _))

structure Rec where
  c : List UInt8
  r : List UInt8
deriving DecidableEq
def Rec.good (e : Rec) : Prop := 1 ≤ e.c.length ∧ e.c.length ≤ 160 ∧ (∀ b ∈ e.c, plain b) ∧ 64 ∉ e.c ∧ e.r.length ≤ 200 ∧ ∀ b ∈ e.r, plain b
instance (e : Rec) : Decidable e.good := inferInstanceAs (Decidable (_ ∧ _ ∧ _ ∧ _ ∧ _ ∧ _))
def body (k : Nat) (e : Rec) : List UInt8 := num k ++ 32 :: (e.c ++ 64 :: e.r)
def line (k : Nat) (e : Rec) : List UInt8 := sealed (body k e) ++ [10]

theorem body_plain {k : Nat} {e : Rec} (h : e.good) : ∀ b ∈ body k e, 32 ≤ b ∧ b ≤ 126 ∧ b ≠ 35 := by
  intro b hb
  have hd : ∀ b ∈ num k, 32 ≤ b ∧ b ≤ 126 ∧ b ≠ 35 := by
    intro b hb
    obtain ⟨h1, h2⟩ := num_digit k b hb
    refine ⟨?_, ?_, ?_⟩
    · simp only [UInt8.le_iff_toNat_le] at *; have : (48 : UInt8).toNat = 48 := rfl; have : (32 : UInt8).toNat = 32 := rfl; omega
    · simp only [UInt8.le_iff_toNat_le] at *; have : (57 : UInt8).toNat = 57 := rfl; have : (126 : UInt8).toNat = 126 := rfl; omega
    · rintro rfl; simp only [UInt8.le_iff_toNat_le] at h1; have : (48 : UInt8).toNat = 48 := rfl; have : (35 : UInt8).toNat = 35 := rfl; omega
  rcases List.mem_append.1 hb with hb | hb
  · exact hd b hb
  rcases List.mem_cons.1 hb with rfl | hb
  · decide
  rcases List.mem_append.1 hb with hb | hb
  · exact h.2.2.1 b hb
  rcases List.mem_cons.1 hb with rfl | hb
  · decide
  · exact h.2.2.2.2.2 b hb
theorem body_nin35 {k : Nat} {e : Rec} (h : e.good) : 35 ∉ body k e := fun hb => (body_plain h _ hb).2.2 rfl
theorem body_nin10 {k : Nat} {e : Rec} (h : e.good) : 10 ∉ body k e := fun hb => absurd (body_plain h _ hb).1 (by decide)
theorem body_len {k : Nat} {e : Rec} (h : e.good) (hk : k < 1000000) : (body k e).length ≤ 368 := by
  have := num_len_small hk
  have h1 := h.2.1
  have h2 := h.2.2.2.2.1
  simp only [body, List.length_append, List.length_cons]
  omega
theorem seal_nin10 {s : List UInt8} (h : 10 ∉ s) : 10 ∉ sealed s := by
  intro hb
  rcases List.mem_append.1 hb with hb | hb
  · exact h hb
  rcases List.mem_cons.1 hb with hb | hb
  · exact absurd hb (by decide)
  · exact num_nin (.inl (by decide)) _ hb
theorem seal_len (s : List UInt8) : (sealed s).length ≤ s.length + 7 := by
  have := num_len_small (show sumOf s < 1000000 by have := sumOf_lt s; omega)
  simp only [sealed, List.length_append, List.length_cons]
  omega
theorem line_len {k : Nat} {e : Rec} (h : e.good) (hk : k < 1000000) : (line k e).length ≤ 376 := by
  have h1 := body_len h hk
  have h2 := seal_len (body k e)
  simp only [line, List.length_append, List.length_singleton]
  omega
theorem line_pos (k : Nat) (e : Rec) : 0 < (line k e).length := by simp [line]
theorem line_upto {k : Nat} {e : Rec} (h : e.good) (t : List UInt8) : upto 10 (line k e ++ t) = sealed (body k e) := by
  have : line k e ++ t = sealed (body k e) ++ 10 :: t := by simp [line]
  rw [this, upto_app (seal_nin10 (body_nin10 h))]
theorem seal_upto {s : List UInt8} (h : 35 ∉ s) : upto 35 (sealed s) = s := upto_app h
theorem body_past {k : Nat} {e : Rec} : past 32 (body k e) = e.c ++ 64 :: e.r := past_app (num_nin (.inl (by decide)) k)
theorem body_drop {k : Nat} {e : Rec} : (body k e).drop ((num k).length + 1) = e.c ++ 64 :: e.r := by simp [body]
theorem good_upto {e : Rec} (h : e.good) : upto 64 (e.c ++ 64 :: e.r) = e.c := upto_app h.2.2.2.1
theorem good_past {e : Rec} (h : e.good) : past 64 (e.c ++ 64 :: e.r) = e.r := past_app h.2.2.2.1

/-- The record that a text would begin with. -/
def peek (s : List UInt8) : Rec := ⟨upto 64 (past 32 (upto 35 (upto 10 s))), past 64 (past 32 (upto 35 (upto 10 s)))⟩
theorem peek_of {k : Nat} {e : Rec} (h : e.good) {s : List UInt8} (hp : line k e <+: s) : peek s = e := by
  obtain ⟨t, rfl⟩ := hp
  unfold peek
  rw [line_upto h, seal_upto (body_nin35 h), body_past, good_upto h, good_past h]
/-- The record number k in front of a text, if there is one. -/
def first (k : Nat) (s : List UInt8) : Option Rec := if (peek s).good ∧ line k (peek s) <+: s then some (peek s) else none
theorem first_some {k : Nat} {s : List UInt8} {e : Rec} : first k s = some e ↔ e.good ∧ line k e <+: s := by
  unfold first
  constructor
  · intro h
    split at h
    · injection h with h; subst h; assumption
    · cases h
  · rintro ⟨h1, h2⟩
    have := peek_of h1 h2
    rw [if_pos (by rw [this]; exact ⟨h1, h2⟩), this]
theorem first_none {k : Nat} {s : List UInt8} : first k s = none ↔ ∀ e : Rec, e.good → ¬ line k e <+: s := by
  constructor
  · intro h e h1 h2
    rw [first_some.2 ⟨h1, h2⟩] at h
    cases h
  · intro h
    cases hf : first k s with
    | none => rfl
    | some e => exact absurd (first_some.1 hf).2 (h e (first_some.1 hf).1)
/-! ### All records -/
/-- The records in front of a text, from number k on, n at most. -/
def recs : Nat → Nat → List UInt8 → List Rec
  | 0, _, _ => []
  | n + 1, k, s => match first k s with
    | none => []
    | some e => e :: recs n (k + 1) (s.drop (line k e).length)
/-- The text of records. -/
def text : Nat → List Rec → List UInt8
  | _, [] => []
  | k, e :: l => line k e ++ text (k + 1) l
theorem text_append (k : Nat) (l m : List Rec) : text k (l ++ m) = text k l ++ text (k + l.length) m := by
  induction l generalizing k with
  | nil => simp [text]
  | cons e l ih => simp only [List.cons_append, text, ih, List.append_assoc, List.length_cons]; rw [show k + 1 + l.length = k + (l.length + 1) by omega]
theorem recs_good (n k : Nat) (s : List UInt8) : ∀ e ∈ recs n k s, e.good := by
  induction n generalizing k s with
  | zero => intro e h; cases h
  | succ n ih =>
    intro e h
    unfold recs at h
    split at h
    · cases h
    · rename_i x hx
      rcases List.mem_cons.1 h with rfl | h
      · exact (first_some.1 hx).1
      · exact ih _ _ e h
theorem recs_length (n k : Nat) (s : List UInt8) : (recs n k s).length ≤ n := by
  induction n generalizing k s with
  | zero => simp [recs]
  | succ n ih =>
    unfold recs
    split
    · simp
    · simp only [List.length_cons]; exact Nat.succ_le_succ (ih _ _)
theorem recs_prefix (n k : Nat) (s : List UInt8) : text k (recs n k s) <+: s := by
  induction n generalizing k s with
  | zero => simp [recs, text]
  | succ n ih =>
    unfold recs
    split
    · simp [text]
    · rename_i e he
      obtain ⟨t, ht⟩ := (first_some.1 he).2
      have := ih (k + 1) (s.drop (line k e).length)
      rw [← ht]
      simp only [text, List.drop_left]
      rw [← ht, List.drop_left] at this
      exact List.prefix_append_right_inj _ |>.2 this
/-- What good records in front of a text are its first records. -/
theorem recs_of (l : List Rec) (hl : ∀ e ∈ l, e.good) (n k : Nat) (t : List UInt8) (hn : l.length ≤ n) : recs n k (text k l ++ t) = l ++ recs (n - l.length) (k + l.length) t := by
  induction l generalizing n k with
  | nil => simp [text]
  | cons e l ih =>
    cases n with
    | zero => simp at hn
    | succ n =>
      have he : first k (text k (e :: l) ++ t) = some e := first_some.2 ⟨hl e (List.mem_cons_self ..), by simp only [text, List.append_assoc]; exact List.prefix_append _ _⟩
      rw [recs, he]
      simp only [text, List.append_assoc, List.drop_left, List.cons_append, List.length_cons]
      rw [ih (fun x hx => hl x (List.mem_cons_of_mem _ hx)) n (k + 1) (by simpa using hn)]
      rw [show n + 1 - (l.length + 1) = n - l.length by omega, show k + 1 + l.length = k + (l.length + 1) by omega]
theorem recs_text (l : List Rec) (hl : ∀ e ∈ l, e.good) (n k : Nat) (hn : l.length ≤ n) : recs n k (text k l) = l := by
  have := recs_of l hl n k [] hn
  rw [List.append_nil] at this
  rw [this]
  have h0 : ∀ m j, recs m j [] = [] := by
    intro m j
    cases m with
    | zero => rfl
    | succ m =>
      unfold recs
      have : first j [] = none := first_none.2 fun e _ h => by have h1 := h.length_le; have h2 := line_pos j e; rw [List.length_nil] at h1; omega
      rw [this]
  rw [h0, List.append_nil]
/-- All records of a text (60 at most), and where they end. -/
def all (s : List UInt8) : List Rec := recs 60 0 s
def endOf (s : List UInt8) : Nat := (text 0 (all s)).length
theorem endOf_le (s : List UInt8) : endOf s ≤ s.length := (recs_prefix 60 0 s).length_le
theorem all_length (s : List UInt8) : (all s).length ≤ 60 := recs_length _ _ _
theorem all_good (s : List UInt8) : ∀ e ∈ all s, e.good := recs_good _ _ _
theorem all_text (s : List UInt8) : text 0 (all s) = s.take (endOf s) := by
  obtain ⟨t, ht⟩ := recs_prefix 60 0 s
  have : ∀ n, s.take n = (text 0 (all s) ++ t).take n := fun n => by
    show _ = (text 0 (recs 60 0 s) ++ t).take n
    rw [ht]
  rw [this, endOf, List.take_left]
theorem whole_text {s : List UInt8} (h : endOf s = s.length) : text 0 (all s) = s := by rw [all_text, h, List.take_length]
theorem all_of_text (l : List Rec) (hl : ∀ e ∈ l, e.good) (hn : l.length ≤ 60) : all (text 0 l) = l := recs_text l hl 60 0 hn
theorem endOf_text (l : List Rec) (hl : ∀ e ∈ l, e.good) (hn : l.length ≤ 60) : endOf (text 0 l) = (text 0 l).length := by unfold endOf; rw [all_of_text l hl hn]
end Go.Proofs.YtokmidpeeejahaaDoor.LogM

/- What the printed functions of the log come to: the reference's side. -/
namespace Go.Proofs.YtokmidpeeejahaaDoor.G
open Go.RowKit Go.Proofs.YtokmidpeeejahaaDoorW.PrintWords Go.Proofs.YtokmidpeeejahaaDoorW.PrintLast Go.Proofs.YtokmidpeeejahaaDoor.LogM
set_option linter.unusedVariables false
set_option linter.unusedSimpArgs false

/-! ### Texts and lists of bytes -/
abbrev L (s : ByteArray) : List UInt8 := s.data.toList
def tx (l : List UInt8) : ByteArray := ⟨l.toArray⟩
theorem L_tx (l : List UInt8) : L (tx l) = l := by simp [L, tx]
theorem tx_L (s : ByteArray) : tx (L s) = s := by
  apply ByteArray.ext
  simp [L, tx]
theorem L_one (b : UInt8) : L ⟨#[b]⟩ = [b] := rfl
theorem L_inj {a b : ByteArray} (h : L a = L b) : a = b := by rw [← tx_L a, h, tx_L]
theorem L_len (s : ByteArray) : (L s).length = s.size := rfl
theorem tx_size (l : List UInt8) : (tx l).size = l.length := by simp [tx, ByteArray.size]
theorem L_cat (a b : ByteArray) : L (cat a b) = L a ++ L b := by
  unfold cat L
  rw [ByteArray.data_append]
  simp
theorem cat_size (a b : ByteArray) : (cat a b).size = a.size + b.size := by unfold cat; exact ByteArray.size_append
theorem L_subs (s : ByteArray) (i j : Nat) : L (subs s i j) = ((L s).drop i).take (j - i) := by
  unfold subs L
  rw [ByteArray.data_extract]
  simp [List.extract_eq_take_drop]
theorem subs_from (s : ByteArray) (i : Nat) : subs s i s.size = tx ((L s).drop i) := by
  apply L_inj
  rw [L_subs, L_tx]
  rw [List.take_of_length_le (by rw [List.length_drop, L_len]; omega)]
theorem bt_nat (s : ByteArray) (i : Nat) (h : i < s.size) : bt s (i : Int) = (((L s)[i]'h).toNat : Int) := by
  unfold bt
  rw [dif_pos (by simpa using h)]
  rfl
theorem toList_L (s : ByteArray) : s.toList = L s := ByteArray.toList_eq s
theorem w64 {x : Int} (h0 : -9223372036854775808 ≤ x) (h1 : x ≤ 9223372036854775807) : wrap64 x = x := by unfold wrap64; omega
theorem rdOf_zero (t : List ByteArray) : rdOf ByteArray.empty t 0 = t.headD ByteArray.empty := by cases t <;> rfl
/-- A bound under which nothing of the log's comes near a limit. -/
def small (s : ByteArray) : Prop := s.size ≤ 1000000000000
theorem Ev.pos {α : Type} {c : Prop} [Decidable c] {g f : Nat → Option α} {r : α} (h : c) (k : Ev g r) : Ev (fun n => if c then g n else f n) r := by
  obtain ⟨K, k⟩ := k
  exact ⟨K, fun n hn => (if_pos h).trans (k n hn)⟩
theorem Ev.neg {α : Type} {c : Prop} [Decidable c] {g f : Nat → Option α} {r : α} (h : ¬ c) (k : Ev f r) : Ev (fun n => if c then g n else f n) r := by
  obtain ⟨K, k⟩ := k
  exact ⟨K, fun n hn => (if_neg h).trans (k n hn)⟩
theorem Ev.const {α : Type} {g : Option α} {r : α} (h : g = some r) : Ev (fun _ => g) r := ⟨0, fun _ _ => h⟩
theorem Ev.bindc {α β : Type} {g : Option α} {f : Nat → α → Option β} {a : α} {r : β} (h : g = some a) (k : Ev (fun n => f n a) r) : Ev (fun n => g.bind (f n)) r := by
  rw [h]; exact k
theorem Ev.last {α : Type} {g : Nat → Option α} {r : α} (h : ∀ k, g (k + 1) = some r) : Ev g r := ⟨1, fun k hk => by
  obtain ⟨m, rfl⟩ : ∃ m, k = m + 1 := ⟨k - 1, by omega⟩
  exact h m⟩
theorem drop_cons (s : ByteArray) (i : Nat) (h : i < s.size) : (L s).drop i = (L s)[i]'h :: (L s).drop (i + 1) := List.drop_eq_getElem_cons h

/-! ### Small functions -/
theorem l1In_eq (a b c : Int) : spec_l1In.f a b c = some (decide (b ≤ a ∧ a ≤ c)) := by
  unfold spec_l1In.f
  by_cases h : a ≥ b
  · rw [if_pos h]; simp [h]
  · rw [if_neg h]; simp [h]
theorem l1Num_eq (k : Nat) (h : k ≤ 9223372036854775807) : spec_l1Num.f (k : Int) = some (tx (num k)) := by
  unfold spec_l1Num.f
  rw [if_pos ⟨by omega, by omega⟩, ← itoa_num]; rfl
theorem plain_iff (b : UInt8) : plain b ↔ (32 ≤ (b.toNat : Int) ∧ (b.toNat : Int) ≤ 126) ∧ ¬ (b.toNat : Int) = 35 := by
  unfold plain
  have e1 : (32 : UInt8) ≤ b ↔ 32 ≤ (b.toNat : Int) := by rw [UInt8.le_iff_toNat_le]; have : (32 : UInt8).toNat = 32 := rfl; omega
  have e2 : b ≤ (126 : UInt8) ↔ (b.toNat : Int) ≤ 126 := by rw [UInt8.le_iff_toNat_le]; have : (126 : UInt8).toNat = 126 := rfl; omega
  have e3 : b ≠ (35 : UInt8) ↔ ¬ (b.toNat : Int) = 35 := by
    constructor
    · intro h h'
      exact h (UInt8.toNat_inj.1 (by have : (35 : UInt8).toNat = 35 := rfl; omega))
    · rintro h rfl
      exact h rfl
  rw [e1, e2, e3, and_assoc]
theorem l27Plain_loop (s : ByteArray) (m : Int) (hs : small s) : ∀ d i : Nat, i + d = s.size → Ev (fun k => spec_l27Plain.l0 k s m (i : Int)) (decide ((∀ b ∈ (L s).drop i, plain b) ∧ (s.size : Int) ≤ m)) := by
  intro d
  unfold small at hs
  induction d with
  | zero =>
    intro i hi
    refine Ev.last fun k => ?_
    simp only [spec_l27Plain.l0]
    rw [if_neg (by omega)]
    have : (L s).drop i = [] := List.drop_eq_nil_of_le (by rw [L_len]; omega)
    rw [this]
    simp
  | succ d ih =>
    intro i hi
    have hlt : i < s.size := by omega
    have hb := bt_nat s i hlt
    have hr := bt_range s (i : Int)
    by_cases hp : plain ((L s)[i]'hlt)
    · have hp' := (plain_iff _).1 hp
      rw [← hb] at hp'
      refine Ev.step (f := fun k => spec_l27Plain.l0 k s m ((i + 1 : Nat) : Int)) (fun k => ?_) ?_
      · simp only [spec_l27Plain.l0]
        rw [if_pos (by omega), if_pos (by omega), l1In_eq, w64 (by omega) (by omega)]
        simp only [Option.bind_some]
        rw [if_pos (by simpa using hp'.1), if_neg hp'.2, w64 (by omega) (by omega)]
        rfl
      · have := ih (i + 1) (by omega)
        have e : (∀ b ∈ (L s).drop i, plain b) ↔ (∀ b ∈ (L s).drop (i + 1), plain b) := by
          rw [drop_cons s i hlt]
          generalize (L s)[i]'hlt = x at hp
          simp [hp]
        simp only [e]
        exact this
    · refine Ev.last fun k => ?_
      have hp' := fun h => hp ((plain_iff _).2 h)
      rw [← hb] at hp'
      have e : (decide ((∀ b ∈ (L s).drop i, plain b) ∧ (s.size : Int) ≤ m)) = false := by
        rw [drop_cons s i hlt]
        generalize (L s)[i]'hlt = x at hp
        simp [hp]
      rw [e]
      simp only [spec_l27Plain.l0]
      rw [if_pos (by omega), if_pos (by omega), l1In_eq, w64 (by omega) (by omega)]
      simp only [Option.bind_some]
      by_cases h : 32 ≤ bt s (i : Int) ∧ bt s (i : Int) ≤ 126
      · rw [if_pos (by simpa using h), if_pos (Classical.not_not.1 fun q => hp' ⟨h, q⟩)]
      · rw [if_neg (by simpa using h)]
theorem l27Plain_ev (s : ByteArray) (m : Int) (hs : small s) : Ev (fun k => spec_l27Plain.f k s m) (decide ((∀ b ∈ L s, plain b) ∧ (s.size : Int) ≤ m)) := by
  have := l27Plain_loop s m hs s.size 0 (by omega)
  simpa [spec_l27Plain.f] using this
theorem l1Stands_loop (s : ByteArray) (c : UInt8) (hs : small s) : ∀ d i : Nat, i + d = s.size → Ev (fun k => spec_l1Stands.l0 k s (c.toNat : Int) (i : Int)) (decide (c ∈ (L s).drop i)) := by
  intro d
  unfold small at hs
  induction d with
  | zero =>
    intro i hi
    refine Ev.last fun k => ?_
    simp only [spec_l1Stands.l0]
    rw [if_neg (by omega)]
    have : (L s).drop i = [] := List.drop_eq_nil_of_le (by rw [L_len]; omega)
    rw [this]
    simp
  | succ d ih =>
    intro i hi
    have hlt : i < s.size := by omega
    have hb := bt_nat s i hlt
    by_cases hc : (L s)[i]'hlt = c
    · refine Ev.last fun k => ?_
      simp only [spec_l1Stands.l0]
      rw [if_pos (by omega), if_pos (by omega), if_pos (by rw [hb, hc])]
      rw [drop_cons s i hlt, hc]
      simp
    · refine Ev.step (f := fun k => spec_l1Stands.l0 k s (c.toNat : Int) ((i + 1 : Nat) : Int)) (fun k => ?_) ?_
      · simp only [spec_l1Stands.l0]
        rw [if_pos (by omega), if_pos (by omega), if_neg (by rw [hb]; intro h; exact hc (UInt8.toNat_inj.1 (by omega))), w64 (by omega) (by omega)]
        rfl
      · have e : c ∈ (L s).drop i ↔ c ∈ (L s).drop (i + 1) := by
          rw [drop_cons s i hlt]
          generalize (L s)[i]'hlt = x at hc
          have hc' : ¬ c = x := fun h => hc h.symm
          simp [hc']
        simp only [e]
        exact ih (i + 1) (by omega)
theorem l1Stands_ev (s : ByteArray) (c : UInt8) (n : Int) (hn : n = (c.toNat : Int)) (hs : small s) : Ev (fun k => spec_l1Stands.f k s n) (decide (c ∈ L s)) := by
  subst hn
  have := l1Stands_loop s c hs s.size 0 (by omega)
  simpa [spec_l1Stands.f] using this
theorem l27Good_ev (c r : ByteArray) (hc : small c) (hr : small r) : Ev (fun k => spec_l27Good.f k c r) (decide (Rec.good ⟨L c, L r⟩)) := by
  unfold spec_l27Good.f
  by_cases h0 : c.toList = []
  · refine Ev.pos h0 (Ev.const (congrArg some ?_))
    rw [toList_L] at h0
    symm
    exact decide_eq_false (fun g => by have h1 : 1 ≤ (L c).length := g.1; rw [h0] at h1; simp at h1)
  · refine Ev.neg h0 (Ev.bind (l27Plain_ev c 160 hc) ?_)
    rw [toList_L] at h0
    have h1 : 1 ≤ (L c).length := by
      cases h : L c with
      | nil => exact absurd h h0
      | cons a l => simp
    by_cases hp : (∀ b ∈ L c, plain b) ∧ (c.size : Int) ≤ 160
    · refine Ev.pos (by simpa using hp) (Ev.bind (l1Stands_ev c 64 64 rfl hc) ?_)
      have h2 : (L c).length ≤ 160 := by rw [L_len]; omega
      by_cases h64 : 64 ∈ L c
      · refine Ev.pos (by simpa using h64) (Ev.const (congrArg some ?_))
        symm
        exact decide_eq_false (fun g => g.2.2.2.1 h64)
      · refine Ev.neg (by simpa using h64) (Ev.bind (l27Plain_ev r 200 hr) (Ev.const (congrArg some ?_)))
        have e : ((r.size : Int) ≤ 200) ↔ (L r).length ≤ 200 := by rw [L_len]; omega
        refine decide_eq_decide.2 ⟨?_, ?_⟩
        · rintro ⟨a, b⟩; exact ⟨h1, h2, hp.1, h64, e.1 b, a⟩
        · rintro ⟨_, _, _, _, b, a⟩; exact ⟨a, e.2 b⟩
    · refine Ev.neg (by simpa using hp) (Ev.const (congrArg some ?_))
      symm
      refine decide_eq_false (fun g => hp ⟨g.2.2.1, ?_⟩)
      have h2 : (L c).length ≤ 160 := g.2.1
      rw [L_len] at h2
      omega
theorem sum_step (n : Nat) (hn : n < 999979) (b : UInt8) : Int.tmod (wrap64 ((wrap64 ((wrap64 (41 * (n : Int))) + (wrap64 (b.toNat : Int)))) + 1)) 999979 = (((41 * n + b.toNat + 1) % 999979 : Nat) : Int) := by
  have := b.toNat_lt
  rw [w64 (x := 41 * (n : Int)) (by omega) (by omega), w64 (x := (b.toNat : Int)) (by omega) (by omega), w64 (x := 41 * (n : Int) + b.toNat) (by omega) (by omega), w64 (by omega) (by omega)]
  rw [Int.tmod_eq_emod_of_nonneg (by omega)]
  omega
theorem take_succ (s : ByteArray) (i : Nat) (h : i < s.size) : (L s).take (i + 1) = (L s).take i ++ [(L s)[i]'h] := by
  rw [List.take_succ_eq_append_getElem]
theorem l1Sum_loop (s : ByteArray) (hs : small s) : ∀ d i : Nat, i + d = s.size → Ev (fun k => spec_l1Sum.l0 k s (sumOf ((L s).take i) : Int) (i : Int)) (sumOf (L s) : Int) := by
  intro d
  unfold small at hs
  induction d with
  | zero =>
    intro i hi
    refine Ev.last fun k => ?_
    simp only [spec_l1Sum.l0]
    rw [if_neg (by omega), List.take_of_length_le (by rw [L_len]; omega)]
  | succ d ih =>
    intro i hi
    have hlt : i < s.size := by omega
    refine Ev.step (f := fun k => spec_l1Sum.l0 k s (sumOf ((L s).take (i + 1)) : Int) ((i + 1 : Nat) : Int)) (fun k => ?_) (ih (i + 1) (by omega))
    simp only [spec_l1Sum.l0]
    rw [if_pos (by omega), if_pos (by omega), bt_nat s i hlt, sum_step _ (sumOf_lt _), take_succ s i hlt, sumOf_snoc, w64 (by omega) (by omega)]
    rfl
theorem l1Sum_ev (s : ByteArray) (hs : small s) : Ev (fun k => spec_l1Sum.f k s) (sumOf (L s) : Int) := by
  have := l1Sum_loop s hs s.size 0 (by omega)
  simpa [spec_l1Sum.f, sumOf] using this
theorem num_len_big (k : Nat) (h : k < 10000000000000000000) : (num k).length ≤ 30 := by
  unfold num
  rw [Lib.decDigits_length]
  exact nDigits_le 30 _ (by omega) (by omega)
theorem l1Seal_ev (s : ByteArray) (hs : small s) : Ev (fun k => spec_l1Seal.f k s) (tx (sealed (L s))) := by
  have hlt := sumOf_lt (L s)
  have hl := num_len_small (show sumOf (L s) < 1000000 by omega)
  have hs' := hs
  unfold small at hs'
  unfold spec_l1Seal.f
  refine Ev.pos (by omega) (Ev.bind (l1Sum_ev s hs) (Ev.bindc (l1Num_eq _ (by omega)) (Ev.pos ?_ (Ev.const ?_))))
  · rw [cat_size, tx_size]
    have : (⟨#[35]⟩ : ByteArray).size = 1 := rfl
    omega
  · congr 1
    apply L_inj
    rw [L_cat, L_cat, L_tx, L_tx]
    simp [sealed, L_one]
theorem l27Line_ev (k : Nat) (hk : k < 1000000000000000000) (c r : ByteArray) (hc : c.size ≤ 100000000000) (hr : r.size ≤ 100000000000) : Ev (fun n => spec_l27Line.f n (k : Int) c r) (tx (line k ⟨L c, L r⟩)) := by
  have hn := num_len_big k (by omega)
  have e1 : (⟨#[32]⟩ : ByteArray).size = 1 := rfl
  have e2 : (⟨#[64]⟩ : ByteArray).size = 1 := rfl
  unfold spec_l27Line.f
  refine Ev.bindc (l1Num_eq k (by omega)) ?_
  have hb : cat (cat (cat (cat (tx (num k)) ⟨#[32]⟩) c) ⟨#[64]⟩) r = tx (body k ⟨L c, L r⟩) := by
    apply L_inj
    simp only [L_cat, L_tx]
    simp [body, L_one]
  have hsz : (tx (body k ⟨L c, L r⟩)).size ≤ 200000000100 := by
    rw [← hb]
    simp only [cat_size, tx_size, e1, e2]
    omega
  refine Ev.pos (by rw [tx_size]; omega) (Ev.pos (by simp only [cat_size, tx_size, e1]; omega) (Ev.pos (by simp only [cat_size, tx_size, e1]; omega) (Ev.pos (by simp only [cat_size, tx_size, e1, e2]; omega) ?_)))
  rw [hb]
  refine Ev.bind (l1Seal_ev _ (by unfold small; omega)) ?_
  have hl := seal_len (L (tx (body k ⟨L c, L r⟩)))
  rw [L_len] at hl
  refine Ev.pos (by rw [tx_size]; omega) (Ev.const (congrArg some ?_))
  apply L_inj
  simp only [L_cat, L_tx]
  simp [line, L_one]
end Go.Proofs.YtokmidpeeejahaaDoor.G

/- What the printed functions of the log come to: the reference's reading of a log. -/
namespace Go.Proofs.YtokmidpeeejahaaDoor.G
open Go.RowKit Go.Proofs.YtokmidpeeejahaaDoorW.PrintWords Go.Proofs.YtokmidpeeejahaaDoorW.PrintLast Go.Proofs.YtokmidpeeejahaaDoor.LogM
set_option linter.unusedVariables false
set_option linter.unusedSimpArgs false

/-! ### Splitting at one byte -/
def splitL (b : UInt8) : List UInt8 → List (List UInt8)
  | [] => [[]]
  | a :: l => if a = b then [] :: splitL b l else match splitL b l with
    | [] => [[a]]
    | h :: t => (a :: h) :: t
theorem splitL_ne (b : UInt8) (l : List UInt8) : splitL b l ≠ [] := by
  cases l with
  | nil => simp [splitL]
  | cons a l =>
    unfold splitL
    split
    · simp
    · split <;> simp
/-- What is split, behind a piece that has begun. -/
def front (p : List UInt8) : List (List UInt8) → List (List UInt8)
  | [] => [p]
  | h :: t => (p ++ h) :: t
theorem front_eq (b a : UInt8) (p l : List UInt8) : front p (splitL b (a :: l)) = if a = b then p :: splitL b l else front (p ++ [a]) (splitL b l) := by
  by_cases h : a = b
  · rw [if_pos h]; simp [splitL, h, front]
  · rw [if_neg h]
    cases hs : splitL b l with
    | nil => exact absurd hs (splitL_ne b l)
    | cons x y => simp [splitL, h, hs, front]
theorem splitL_head (b : UInt8) (l : List UInt8) : (splitL b l).headD [] = upto b l := by
  induction l with
  | nil => rfl
  | cons a l ih =>
    by_cases h : a = b
    · simp [splitL, h, upto]
    · cases hs : splitL b l with
      | nil => exact absurd hs (splitL_ne b l)
      | cons x y =>
        rw [hs] at ih
        simp only [List.headD_cons] at ih
        simp [splitL, h, hs, upto, ih]
theorem splitL_two (b : UInt8) (l : List UInt8) : 2 ≤ (splitL b l).length ↔ b ∈ l := by
  induction l with
  | nil => simp [splitL]
  | cons a l ih =>
    by_cases h : a = b
    · subst h
      have : 0 < (splitL a l).length := List.length_pos_iff.2 (splitL_ne a l)
      simp [splitL]
      omega
    · have h' : ¬ b = a := fun e => h e.symm
      cases hs : splitL b l with
      | nil => exact absurd hs (splitL_ne b l)
      | cons x y =>
        rw [hs] at ih
        simp only [List.length_cons] at ih
        simp only [splitL, h, if_false, hs, List.length_cons, List.mem_cons, h', false_or]
        exact ih
theorem l1Split_loop (s : ByteArray) (b : UInt8) (hs : small s) : ∀ (d i fr : Nat) (out : List ByteArray), i + d = s.size → fr ≤ i → out.length ≤ fr →
    Ev (fun k => spec_l1Split.l0 k s (b.toNat : Int) out (fr : Int) (i : Int)) (out ++ (front (((L s).drop fr).take (i - fr)) (splitL b ((L s).drop i))).map tx) := by
  intro d
  have hs' := hs
  unfold small at hs'
  induction d with
  | zero =>
    intro i fr out hi hf ho
    refine Ev.last fun k => ?_
    simp only [spec_l1Split.l0]
    rw [if_neg (by omega), if_pos (by omega), if_pos (by omega), if_pos (by omega)]
    have : (L s).drop i = [] := List.drop_eq_nil_of_le (by rw [L_len]; omega)
    rw [this]
    simp only [splitL, front, List.append_nil, List.map_cons, List.map_nil, Int.toNat_natCast]
    rw [subs_from, List.take_of_length_le (by rw [List.length_drop, L_len]; omega)]
  | succ d ih =>
    intro i fr out hi hf ho
    have hlt : i < s.size := by omega
    have hb := bt_nat s i hlt
    rw [drop_cons s i hlt, front_eq]
    by_cases hc : (L s)[i]'hlt = b
    · rw [if_pos hc]
      refine Ev.step (f := fun k => spec_l1Split.l0 k s (b.toNat : Int) (out ++ [tx (((L s).drop fr).take (i - fr))]) ((i + 1 : Nat) : Int) ((i + 1 : Nat) : Int)) (fun k => ?_) ?_
      · simp only [spec_l1Split.l0]
        rw [if_pos (by omega), if_pos (by omega), if_pos (by rw [hb, hc]), if_pos (by omega), if_pos (by omega), if_pos (by omega), if_pos (by omega), w64 (by omega) (by omega)]
        have : subs s (fr : Int).toNat (i : Int).toNat = tx (((L s).drop fr).take (i - fr)) := by
          apply L_inj
          rw [L_subs, L_tx]
          simp
        rw [this]
        rfl
      · have := ih (i + 1) (i + 1) (out ++ [tx (((L s).drop fr).take (i - fr))]) (by omega) (by omega) (by simp; omega)
        have e : front (((L s).drop (i + 1)).take (i + 1 - (i + 1))) (splitL b ((L s).drop (i + 1))) = splitL b ((L s).drop (i + 1)) := by
          rw [Nat.sub_self]
          cases h : splitL b ((L s).drop (i + 1)) with
          | nil => exact absurd h (splitL_ne _ _)
          | cons x y => simp [front]
        rw [e] at this
        simpa using this
    · rw [if_neg hc]
      refine Ev.step (f := fun k => spec_l1Split.l0 k s (b.toNat : Int) out (fr : Int) ((i + 1 : Nat) : Int)) (fun k => ?_) ?_
      · simp only [spec_l1Split.l0]
        rw [if_pos (by omega), if_pos (by omega), if_neg (by rw [hb]; intro h; exact hc (UInt8.toNat_inj.1 (by omega))), w64 (by omega) (by omega)]
        rfl
      · have := ih (i + 1) fr out (by omega) (by omega) (by omega)
        have e : ((L s).drop fr).take (i + 1 - fr) = ((L s).drop fr).take (i - fr) ++ [(L s)[i]'hlt] := by
          rw [show i + 1 - fr = (i - fr) + 1 by omega, List.take_succ_eq_append_getElem (by rw [List.length_drop, L_len]; omega)]
          congr 2
          rw [List.getElem_drop]
          congr 1
          omega
        rw [e] at this
        exact this
theorem l1Split_ev (s : ByteArray) (b : UInt8) (n : Int) (hn : n = (b.toNat : Int)) (hs : small s) : Ev (fun k => spec_l1Split.f k s n) ((splitL b (L s)).map tx) := by
  subst hn
  have := l1Split_loop s b hs s.size 0 0 [] (by omega) (by omega) (by simp)
  have e : front (((L s).drop 0).take (0 - 0)) (splitL b ((L s).drop 0)) = splitL b (L s) := by
    rw [List.drop_zero]
    cases h : splitL b (L s) with
    | nil => exact absurd h (splitL_ne _ _)
    | cons x y => simp [front]
  rw [e] at this
  simpa [spec_l1Split.f] using this
theorem split_pos (b : UInt8) (l : List UInt8) : 0 < (((splitL b l).map tx).length : Int) := by
  have := List.length_pos_iff.2 (splitL_ne b l)
  rw [List.length_map]
  omega
theorem split_rd (b : UInt8) (l : List UInt8) : rdOf ByteArray.empty ((splitL b l).map tx) 0 = tx (upto b l) := by
  rw [rdOf_zero, ← splitL_head]
  cases h : splitL b l with
  | nil => exact absurd h (splitL_ne _ _)
  | cons x y => rfl

/-! ### A line, read -/
/-- What l27Read says of a line (its newline struck) at number k. -/
def readS (k : Nat) (l : List UInt8) : Rec × Bool :=
  if (num k ++ [32]) <+: upto 35 l then
    (if 64 ∈ (upto 35 l).drop ((num k).length + 1) then
      (⟨upto 64 ((upto 35 l).drop ((num k).length + 1)), past 64 ((upto 35 l).drop ((num k).length + 1))⟩,
        decide (Rec.good ⟨upto 64 ((upto 35 l).drop ((num k).length + 1)), past 64 ((upto 35 l).drop ((num k).length + 1))⟩ ∧ line k ⟨upto 64 ((upto 35 l).drop ((num k).length + 1)), past 64 ((upto 35 l).drop ((num k).length + 1))⟩ = l ++ [10]))
    else (⟨[], []⟩, false))
  else (⟨[], []⟩, false)
theorem upto_len (b : UInt8) (l : List UInt8) : (upto b l).length ≤ l.length := by
  induction l with
  | nil => simp [upto]
  | cons a l ih =>
    unfold upto
    split
    · simp
    · simp; exact ih
theorem upto_len_eq (b : UInt8) (l : List UInt8) : (upto b l).length = l.length ↔ b ∉ l := by
  constructor
  · intro h hb
    have := congrArg List.length (upto_past hb)
    simp at this
    omega
  · intro h; rw [upto_none h]
theorem past_drop {b : UInt8} {l : List UInt8} (h : b ∈ l) : l.drop ((upto b l).length + 1) = past b l := by
  have e := upto_past h
  have : ∀ n, l.drop n = (upto b l ++ b :: past b l).drop n := fun n => by rw [← e]
  rw [this, ← List.drop_drop, List.drop_left]
  rfl
theorem l27Read_ev (k : Nat) (hk : k < 1000000) (s : ByteArray) (hs : s.size ≤ 10000000000) :
    Ev (fun n => spec_l27Read.f n s (k : Int)) (tx (readS k (L s)).1.c, tx (readS k (L s)).1.r, (readS k (L s)).2) := by
  have hn := num_len_small hk
  have e1 : (⟨#[32]⟩ : ByteArray).size = 1 := rfl
  have hsm : small s := by unfold small; omega
  unfold spec_l27Read.f
  refine Ev.bindc (l1Num_eq k (by omega)) (Ev.pos (by rw [tx_size]; omega) (Ev.bind (l1Split_ev s 35 35 rfl hsm) (Ev.pos (split_pos _ _) ?_)))
  rw [split_rd]
  have ha : cat (tx (num k)) ⟨#[32]⟩ = tx (num k ++ [32]) := by
    apply L_inj
    rw [L_cat, L_tx, L_tx, L_one]
  rw [ha]
  have hal : (tx (num k ++ [32])).size = (num k).length + 1 := by rw [tx_size]; simp
  have htl : (tx (upto 35 (L s))).size = (upto 35 (L s)).length := tx_size _
  have hul := upto_len 35 (L s)
  rw [L_len] at hul
  -- what follows the test of the front
  have rest : ∀ q : Bool, (q = false ↔ (num k ++ [32]) <+: upto 35 (L s)) → Ev (fun n => spec_l27Read.j0 n s (k : Int) (tx (num k ++ [32])) (tx (upto 35 (L s))) q) (tx (readS k (L s)).1.c, tx (readS k (L s)).1.r, (readS k (L s)).2) := by
    intro q hq
    cases q with
    | true =>
      have hnp : ¬ (num k ++ [32]) <+: upto 35 (L s) := fun h => by have := hq.2 h; cases this
      refine Ev.last fun n => ?_
      simp only [spec_l27Read.j0, if_true]
      unfold readS
      rw [if_neg hnp]
      rfl
    | false =>
      have hp := hq.1 rfl
      have hle := hp.length_le
      rw [List.length_append, List.length_singleton] at hle
      obtain ⟨rst, hrst⟩ : ∃ rst, (upto 35 (L s)).drop ((num k).length + 1) = rst := ⟨_, rfl⟩
      have hrl : rst.length ≤ s.size := by rw [← hrst, List.length_drop]; omega
      have hsub : subs (tx (upto 35 (L s))) (tx (num k ++ [32])).size (tx (upto 35 (L s))).size = tx rst := by
        rw [subs_from, L_tx, hal, hrst]
      refine Ev.step (f := fun n => (spec_l1Split.f n (tx rst) 64).bind fun t127 => (if 0 < (t127.length : Int) then (if ((rdOf ByteArray.empty t127 0).size : Int) = ((tx rst).size : Int) then (some ((⟨#[]⟩ : ByteArray), (⟨#[]⟩ : ByteArray), false)) else (if 0 ≤ (wrap64 (((rdOf ByteArray.empty t127 0).size : Int) + 1)) then (if (wrap64 (((rdOf ByteArray.empty t127 0).size : Int) + 1)) ≤ ((tx rst).size : Int) then ((spec_l27Good.f n (rdOf ByteArray.empty t127 0) (subs (tx rst) ((wrap64 (((rdOf ByteArray.empty t127 0).size : Int) + 1)) : Int).toNat (tx rst).size)).bind fun t132 => (if t132 = true then ((spec_l27Line.f n (k : Int) (rdOf ByteArray.empty t127 0) (subs (tx rst) ((wrap64 (((rdOf ByteArray.empty t127 0).size : Int) + 1)) : Int).toNat (tx rst).size)).bind fun t133 => (if s.size + 1 ≤ 9223372036854775807 then (some (rdOf ByteArray.empty t127 0, subs (tx rst) ((wrap64 (((rdOf ByteArray.empty t127 0).size : Int) + 1)) : Int).toNat (tx rst).size, (t133.toList == (cat s (⟨#[10]⟩ : ByteArray)).toList))) else (none))) else (some (rdOf ByteArray.empty t127 0, subs (tx rst) ((wrap64 (((rdOf ByteArray.empty t127 0).size : Int) + 1)) : Int).toNat (tx rst).size, false)))) else (none)) else (none))) else (none))) (fun n => ?_) ?_
      · simp only [spec_l27Read.j0]
        rw [if_neg (by simp), if_pos (by omega), if_pos (by rw [hal, htl]; omega), hsub]
      · have hrs : (tx rst).size = rst.length := tx_size _
        have hrsm : small (tx rst) := by unfold small; rw [hrs]; omega
        refine Ev.bind (l1Split_ev (tx rst) 64 64 rfl hrsm) (Ev.pos (split_pos _ _) ?_)
        rw [split_rd, L_tx, tx_size, hrs]
        have hask := upto_len 64 rst
        by_cases h64 : 64 ∈ rst
        · have hne : ¬ (upto 64 rst).length = rst.length := fun h => (upto_len_eq 64 rst).1 h h64
          have hdr : subs (tx rst) ((wrap64 (((upto 64 rst).length : Int) + 1)) : Int).toNat (tx rst).size = tx (past 64 rst) := by
            rw [subs_from, L_tx, w64 (by omega) (by omega), show (((upto 64 rst).length : Int) + 1).toNat = (upto 64 rst).length + 1 by omega, past_drop h64]
          rw [hrs] at hdr
          have hpl : (past 64 rst).length ≤ rst.length := by rw [← past_drop h64, List.length_drop]; omega
          have hr : readS k (L s) = (⟨upto 64 rst, past 64 rst⟩, decide (Rec.good ⟨upto 64 rst, past 64 rst⟩ ∧ line k ⟨upto 64 rst, past 64 rst⟩ = L s ++ [10])) := by
            unfold readS
            rw [if_pos hp, hrst, if_pos h64]
          rw [hr]
          refine Ev.neg (by omega) (Ev.pos (by rw [w64 (by omega) (by omega)]; omega) (Ev.pos (by rw [w64 (by omega) (by omega)]; omega) ?_))
          rw [hdr]
          have g := l27Good_ev (tx (upto 64 rst)) (tx (past 64 rst)) (by unfold small; rw [tx_size]; omega) (by unfold small; rw [tx_size]; omega)
          rw [L_tx, L_tx] at g
          refine Ev.bind g ?_
          by_cases hg : Rec.good ⟨upto 64 rst, past 64 rst⟩
          · refine Ev.pos (by simpa using hg) ?_
            have ln := l27Line_ev k (by omega) (tx (upto 64 rst)) (tx (past 64 rst)) (by rw [tx_size]; omega) (by rw [tx_size]; omega)
            rw [L_tx, L_tx] at ln
            refine Ev.bind ln (Ev.pos (by omega) (Ev.const ?_))
            rw [toList_L, toList_L, L_tx, L_cat, L_one]
            congr 3
            rw [Bool.eq_iff_iff]
            simp [hg]
          · refine Ev.neg (by simpa using hg) (Ev.const ?_)
            congr 3
            symm
            exact decide_eq_false fun h => hg h.1
        · have he := (upto_len_eq 64 rst).2 h64
          refine Ev.pos (by rw [he]) (Ev.const ?_)
          unfold readS
          rw [if_pos hp, hrst, if_neg h64]
          rfl
  by_cases hlt : (upto 35 (L s)).length < (num k).length + 1
  · refine Ev.pos (by rw [hal, htl]; omega) (rest true ?_)
    constructor
    · intro h; cases h
    · intro h
      have := h.length_le
      simp at this
      omega
  · refine Ev.neg (by rw [hal, htl]; omega) (Ev.pos (by omega) (Ev.pos (by rw [hal, htl]; omega) (rest _ ?_)))
    rw [toList_L, toList_L, L_subs, L_tx, L_tx, hal]
    simp only [List.drop_zero, Nat.sub_zero]
    rw [bne_eq_false_iff_eq]
    constructor
    · intro h; rw [← h]; exact List.take_prefix _ _
    · rintro ⟨t, ht⟩
      have hl : (num k).length + 1 = (num k ++ [32]).length := by simp
      rw [← ht, hl, List.take_left]
/-- A line that is read is the first record of the text that begins with it. -/
theorem readS_first (k : Nat) (l t : List UInt8) (h10 : 10 ∉ l) : first k (l ++ 10 :: t) = if (readS k l).2 = true then some (readS k l).1 else none := by
  by_cases h : (readS k l).2 = true
  · rw [if_pos h]
    refine first_some.2 ?_
    unfold readS at h ⊢
    split at h
    · rename_i hp
      rw [if_pos hp]
      split at h
      · rename_i h64
        rw [if_pos h64]
        have h := of_decide_eq_true h
        exact ⟨h.1, ⟨t, by rw [h.2]; simp⟩⟩
      · cases h
    · cases h
  · rw [if_neg h]
    refine first_none.2 fun e he hl => h ?_
    obtain ⟨u, hu⟩ := hl
    have h1 : upto 10 (l ++ 10 :: t) = l := upto_app h10
    rw [← hu, line_upto he] at h1
    subst h1
    have h35 : upto 35 (sealed (body k e)) = body k e := seal_upto (body_nin35 he)
    unfold readS
    rw [h35]
    have hp : (num k ++ [32]) <+: body k e := ⟨e.c ++ 64 :: e.r, by simp [body]⟩
    rw [if_pos hp, body_drop, if_pos (by simp), good_upto he, good_past he]
    exact decide_eq_true ⟨he, rfl⟩
theorem readS_rec (k : Nat) (l t : List UInt8) (h10 : 10 ∉ l) (e : Rec) (h : first k (l ++ 10 :: t) = some e) : (readS k l) = (e, true) ∧ line k e = l ++ [10] := by
  rw [readS_first k l t h10] at h
  split at h
  · rename_i hr
    injection h with h
    refine ⟨by rw [← h, ← hr], ?_⟩
    have := hr
    rw [← h]
    unfold readS at this ⊢
    split at this
    · rename_i hp
      rw [if_pos hp]
      split at this
      · rename_i h64
        rw [if_pos h64]
        exact (of_decide_eq_true this).2
      · cases this
    · cases this
  · cases h
end Go.Proofs.YtokmidpeeejahaaDoor.G

/- What the printed functions of the log come to: the reference's log. -/
namespace Go.Proofs.YtokmidpeeejahaaDoor.G
open Go.RowKit Go.Proofs.YtokmidpeeejahaaDoorW.PrintWords Go.Proofs.YtokmidpeeejahaaDoorW.PrintLast Go.Proofs.YtokmidpeeejahaaDoor.LogM
set_option linter.unusedVariables false
set_option linter.unusedSimpArgs false

def toS (e : Rec) : S40 := ⟨tx e.c, tx e.r⟩
theorem first_nil (k : Nat) : first k [] = none := first_none.2 fun e _ h => by
  have h1 := h.length_le
  have h2 := line_pos k e
  rw [List.length_nil] at h1
  omega
theorem recs_none {n k : Nat} {s : List UInt8} (h : first k s = none) : recs n k s = [] := by
  cases n with
  | zero => rfl
  | succ n => unfold recs; rw [h]
theorem recs_some {n k : Nat} {s : List UInt8} {e : Rec} (h : first k s = some e) : recs (n + 1) k s = e :: recs n (k + 1) (s.drop (line k e).length) := by
  rw [recs, h]
theorem first_no10 {k : Nat} {s : List UInt8} (h : 10 ∉ s) : first k s = none := first_none.2 fun e _ hp => by
  obtain ⟨t, ht⟩ := hp
  apply h
  rw [← ht]
  simp [line]
theorem l27Open_loop (s : ByteArray) (hs : s.size ≤ 10000000000) : ∀ (d k p : Nat) (out : List S40), d + k = 60 → out.length = k → p ≤ s.size →
    Ev (fun n => spec_l27Open.l0 n s out (p : Int)) (out ++ (recs d k ((L s).drop p)).map toS, ((p + (text k (recs d k ((L s).drop p))).length : Nat) : Int)) := by
  intro d
  induction d with
  | zero =>
    intro k p out hd ho hp
    have hr : recs 0 k ((L s).drop p) = [] := rfl
    rw [hr]
    refine Ev.step (f := fun n => spec_l27Open.j1 n s out (p : Int) false) (fun n => ?_) (Ev.last fun n => ?_)
    · simp only [spec_l27Open.l0]
      by_cases h : (p : Int) < (s.size : Int)
      · rw [if_pos h, decide_eq_false (by omega)]
      · rw [if_neg h]
    · simp only [spec_l27Open.j1]
      rw [if_neg (by simp)]
      simp [text]
  | succ d ih =>
    intro k p out hd ho hp
    by_cases hlt : p < s.size
    · have hsub : subs s (p : Int).toNat s.size = tx ((L s).drop p) := by rw [subs_from]; simp
      have hdl : ((L s).drop p).length ≤ s.size := by rw [List.length_drop, L_len]; omega
      refine Ev.step (f := fun n => spec_l27Open.j1 n s out (p : Int) true) (fun n => ?_) ?_
      · simp only [spec_l27Open.l0]
        rw [if_pos (by omega), decide_eq_true (by omega)]
      generalize hD : (L s).drop p = D at hsub hdl ⊢
      refine Ev.step (f := fun n => (spec_l1Split.f n (tx D) 10).bind fun t137 => (if 0 < (t137.length : Int) then ((spec_l27Read.f n (rdOf ByteArray.empty t137 0) (out.length : Int)).bind fun bt141 => (if (t137.length : Int) < 2 then (some (out, (p : Int))) else (if bt141.2.2 = true then (if out.length < 4398046511104 then (spec_l27Open.l0 n s (out ++ [(⟨bt141.1, bt141.2.1⟩ : S40)]) (wrap64 ((wrap64 ((p : Int) + ((rdOf ByteArray.empty t137 0).size : Int))) + 1))) else (none)) else (some (out, (p : Int)))))) else (none))) (fun n => ?_) ?_
      · simp only [spec_l27Open.j1]
        rw [if_pos trivial, if_pos (by omega), if_pos (by omega), hsub]
      · refine Ev.bind (l1Split_ev (tx D) 10 10 rfl (by unfold small; rw [tx_size]; omega)) (Ev.pos (split_pos _ _) ?_)
        rw [split_rd, L_tx]
        have hul := upto_len 10 D
        have rd := l27Read_ev k (by omega) (tx (upto 10 D)) (by rw [tx_size]; omega)
        rw [L_tx] at rd
        rw [← ho] at rd
        refine Ev.bind rd ?_
        rw [ho]
        have h2 := splitL_two 10 D
        by_cases h10 : 10 ∈ D
        · have h2' := h2.2 h10
          refine Ev.neg (by rw [List.length_map]; omega) ?_
          have hn10 := upto_nin 10 D
          have hD' := upto_past h10
          have hf := readS_first k (upto 10 D) (past 10 D) hn10
          rw [← hD'] at hf
          by_cases hr : (readS k (upto 10 D)).2 = true
          · rw [if_pos hr] at hf
            refine Ev.pos hr (Ev.pos (by omega) ?_)
            have hl : line k (readS k (upto 10 D)).1 = upto 10 D ++ [10] := by
              have := readS_rec k (upto 10 D) (past 10 D) hn10 (readS k (upto 10 D)).1 (by rw [← hD']; exact hf)
              exact this.2
            have hll : (line k (readS k (upto 10 D)).1).length = (upto 10 D).length + 1 := by rw [hl]; simp
            rw [recs_some hf, hll]
            have hDl : D.length = s.size - p := by rw [← hD, List.length_drop, L_len]
            have hpl : (upto 10 D).length + 1 ≤ D.length := by
              have := congrArg List.length hD'
              simp at this
              omega
            rw [tx_size, w64 (x := (p : Int) + ((upto 10 D).length : Int)) (by omega) (by omega), w64 (by omega) (by omega)]
            have := ih (k + 1) (p + ((upto 10 D).length + 1)) (out ++ [⟨tx (readS k (upto 10 D)).1.c, tx (readS k (upto 10 D)).1.r⟩]) (by omega) (by simp [ho]) (by omega)
            rw [← List.drop_drop, hD] at this
            have e1 : ((p : Int) + ((upto 10 D).length : Int) + 1) = ((p + ((upto 10 D).length + 1) : Nat) : Int) := by omega
            rw [e1]
            have e2 : (text k ((readS k (upto 10 D)).1 :: recs d (k + 1) (D.drop ((upto 10 D).length + 1)))).length = (upto 10 D).length + 1 + (text (k + 1) (recs d (k + 1) (D.drop ((upto 10 D).length + 1)))).length := by
              simp only [text, List.length_append, hll]
            rw [e2, List.map_cons]
            generalize (text (k + 1) (recs d (k + 1) (D.drop ((upto 10 D).length + 1)))).length = T at this ⊢
            generalize (recs d (k + 1) (D.drop ((upto 10 D).length + 1))).map toS = Y at this ⊢
            have e3 : out ++ toS (readS k (upto 10 D)).1 :: Y = (out ++ [toS (readS k (upto 10 D)).1]) ++ Y := by simp
            have e4 : p + ((upto 10 D).length + 1 + T) = p + ((upto 10 D).length + 1) + T := by omega
            rw [e3, e4]
            exact this
          · rw [if_neg hr] at hf
            refine Ev.neg hr (Ev.const ?_)
            rw [recs_none hf]
            simp [text]
        · have h2' : ¬ 2 ≤ (splitL 10 D).length := fun h => h10 (h2.1 h)
          refine Ev.pos (by rw [List.length_map]; omega) (Ev.const ?_)
          rw [recs_none (first_no10 h10)]
          simp [text]
    · have hD : (L s).drop p = [] := List.drop_eq_nil_of_le (by rw [L_len]; omega)
      rw [hD, recs_none (first_nil k)]
      refine Ev.step (f := fun n => spec_l27Open.j1 n s out (p : Int) false) (fun n => ?_) (Ev.last fun n => ?_)
      · simp only [spec_l27Open.l0]
        rw [if_neg (by omega)]
      · simp only [spec_l27Open.j1]
        rw [if_neg (by simp)]
        simp [text]
theorem l27Open_ev (s : ByteArray) (hs : s.size ≤ 10000000000) : Ev (fun n => spec_l27Open.f n s) ((all (L s)).map toS, (endOf (L s) : Int)) := by
  have := l27Open_loop s hs 60 0 0 [] rfl rfl (by omega)
  simpa [spec_l27Open.f, all, endOf] using this
/-- A log's fields are those of a valid one. -/
def vlog (D P : List UInt8) (n : Int) : Prop := D.length + P.length ≤ 30000 ∧ endOf (D ++ P) = D.length + P.length ∧ endOf D = D.length ∧ ((all (D ++ P)).length : Int) = n
instance (D P : List UInt8) (n : Int) : Decidable (vlog D P n) := inferInstanceAs (Decidable (_ ∧ _ ∧ _ ∧ _))
theorem l27Log_ev (D P : ByteArray) (n : Int) (hD : D.size ≤ 140737488351232) (hP : P.size ≤ 140737488351232) : Ev (fun k => spec_l27Log.f k D P n) (decide (vlog (L D) (L P) n)) := by
  unfold spec_l27Log.f
  have hw : wrap64 ((D.size : Int) + (P.size : Int)) = (D.size : Int) + (P.size : Int) := w64 (by omega) (by omega)
  have j : ∀ b, Ev (fun k => spec_l27Log.j0 k b) b := fun b => Ev.last fun k => rfl
  by_cases hb : D.size + P.size ≤ 30000
  · refine Ev.neg (by rw [hw]; omega) (Ev.pos (by omega) (Ev.bind (l27Open_ev (cat D P) (by rw [cat_size]; omega)) (Ev.bind (l27Open_ev D (by omega)) ?_)))
    rw [L_cat, hw]
    have fin : ∀ b, (b = true ↔ vlog (L D) (L P) n) → Ev (fun k => spec_l27Log.j0 k b) (decide (vlog (L D) (L P) n)) := by
      intro b hb
      have : decide (vlog (L D) (L P) n) = b := by
        rw [Bool.eq_iff_iff, hb]
        simp
      rw [this]
      exact j b
    by_cases h1 : endOf (L D ++ L P) = D.size + P.size
    · refine Ev.pos (by omega) ?_
      by_cases h2 : endOf (L D) = D.size
      · refine Ev.pos (by omega) (fin _ ?_)
        simp only [List.length_map, beq_iff_eq, vlog]
        exact ⟨fun h => ⟨hb, h1, h2, h⟩, fun h => h.2.2.2⟩
      · refine Ev.neg (by omega) (fin _ ?_)
        simp only [Bool.false_eq_true, false_iff]
        exact fun h => h2 h.2.2.1
    · refine Ev.neg (by omega) (fin _ ?_)
      simp only [Bool.false_eq_true, false_iff]
      exact fun h => h1 h.2.1
  · refine Ev.pos (by rw [hw]; omega) (Ev.const (congrArg some ?_))
    symm
    exact decide_eq_false fun h => hb h.1
theorem IsValidLogS_ev (D P : ByteArray) (n : Int) (hD : D.size ≤ 140737488351232) (hP : P.size ≤ 140737488351232) : Ev (fun k => spec_IsValidLog.f k D P n) (decide (vlog (L D) (L P) n)) :=
  Ev.bind (l27Log_ev D P n hD hP) (Ev.const rfl)
end Go.Proofs.YtokmidpeeejahaaDoor.G

/- What the printed functions of the log come to: the program's side. -/
namespace Go.Proofs.YtokmidpeeejahaaDoor.G
open Go.RowKit Go.Proofs.YtokmidpeeejahaaDoorW.PrintWords Go.Proofs.YtokmidpeeejahaaDoorW.PrintLast Go.Proofs.YtokmidpeeejahaaDoor.LogM
set_option linter.unusedVariables false
set_option linter.unusedSimpArgs false

theorem in_eq (a b c : Int) : impl_in.f a b c = some (decide (b ≤ a ∧ a ≤ c)) := by
  unfold impl_in.f
  by_cases h : a ≥ b
  · rw [if_pos h]; simp [h]
  · rw [if_neg h]; simp [h]
theorem plainB_eq (b : UInt8) : plainB b = decide (plain b) := by
  rw [Bool.eq_iff_iff]
  unfold plainB
  simp only [Bool.and_eq_true, decide_eq_true_eq, plain_iff]
  omega
theorem isPlain_eq (s : ByteArray) (hs : s.size ≤ 9223372036854775807) : impl_isPlain.f s = some (decide (∀ b ∈ L s, plain b)) := by
  unfold impl_isPlain.f
  rw [if_pos hs]
  congr 1
  rw [Bool.eq_iff_iff, decide_eq_true_iff]
  have e : ((L s).all plainB = true) ↔ ∀ b ∈ L s, plain b := by
    rw [List.all_eq_true]
    exact forall₂_congr fun b _ => by rw [plainB_eq, decide_eq_true_iff]
  exact e
theorem contains_eq (s : ByteArray) (b : UInt8) (hs : s.size < 4294967281) : strings_Contains.f s ⟨#[b]⟩ = some (decide (b ∈ L s)) := by
  unfold strings_Contains.f
  rw [if_pos hs]
  exact congrArg some (contains_one b (L s))
theorem IsValidRecord_eq (c r : ByteArray) : impl_IsValidRecord.f c r = some (decide (Rec.good ⟨L c, L r⟩)) := by
  unfold impl_IsValidRecord.f
  rw [in_eq]
  simp only [Option.bind_some]
  by_cases h1 : (1 : Int) ≤ (c.size : Int) ∧ (c.size : Int) ≤ 160
  · rw [if_pos (by simpa using h1), isPlain_eq _ (by omega)]
    simp only [Option.bind_some]
    by_cases h2 : ∀ b ∈ L c, plain b
    · rw [if_pos (by simpa using h2), contains_eq _ _ (by omega)]
      simp only [Option.bind_some]
      by_cases h3 : 64 ∈ L c
      · rw [if_pos (by simpa using h3)]
        exact congrArg some (decide_eq_false (fun g => g.2.2.2.1 h3)).symm
      · rw [if_neg (by simpa using h3)]
        by_cases h4 : (r.size : Int) ≤ 200
        · rw [if_pos h4, isPlain_eq _ (by omega)]
          simp only [Option.bind_some]
          refine congrArg some (decide_eq_decide.2 ⟨fun g => ⟨?_, ?_, h2, h3, ?_, g⟩, fun g => g.2.2.2.2.2⟩)
          · show 1 ≤ (L c).length
            rw [L_len]; omega
          · show (L c).length ≤ 160
            rw [L_len]; omega
          · show (L r).length ≤ 200
            rw [L_len]; omega
        · rw [if_neg h4]
          refine congrArg some (decide_eq_false (fun g => h4 ?_)).symm
          have : (L r).length ≤ 200 := g.2.2.2.2.1
          rw [L_len] at this
          omega
    · rw [if_neg (by simpa using h2)]
      exact congrArg some (decide_eq_false (fun g => h2 g.2.2.1)).symm
  · rw [if_neg (by simpa using h1)]
    refine congrArg some (decide_eq_false (fun g => h1 ?_)).symm
    have a : 1 ≤ (L c).length := g.1
    have b : (L c).length ≤ 160 := g.2.1
    rw [L_len] at a b
    omega
theorem decimal_eq (k : Nat) (h : k ≤ 9223372036854775807) : impl_decimal.f (k : Int) = some (tx (num k)) := by
  unfold impl_decimal.f strconv_Itoa.f
  rw [if_pos ⟨by omega, by omega⟩, ← itoa_num]
  rfl
theorem Checksum_loop (s : ByteArray) (hs : small s) : ∀ d i : Nat, i + d = s.size → Ev (fun k => impl_Checksum.l0 k s (sumOf ((L s).take i) : Int) (s.size : Int) (i : Int)) ((sumOf (L s) : Int), true) := by
  intro d
  unfold small at hs
  induction d with
  | zero =>
    intro i hi
    refine Ev.last fun k => ?_
    simp only [impl_Checksum.l0]
    rw [if_neg (by omega), List.take_of_length_le (by rw [L_len]; omega)]
  | succ d ih =>
    intro i hi
    have hlt : i < s.size := by omega
    refine Ev.step (f := fun k => impl_Checksum.l0 k s (sumOf ((L s).take (i + 1)) : Int) (s.size : Int) ((i + 1 : Nat) : Int)) (fun k => ?_) (ih (i + 1) (by omega))
    simp only [impl_Checksum.l0]
    rw [if_pos (by omega), if_pos (by omega), if_pos (by omega), bt_nat s i hlt, sum_step _ (sumOf_lt _), take_succ s i hlt, sumOf_snoc, w64 (by omega) (by omega)]
    rfl
theorem Checksum_ev (s : ByteArray) (hs : s.size ≤ 4000) : Ev (fun k => impl_Checksum.f k s) ((sumOf (L s) : Int), true) := by
  unfold impl_Checksum.f
  refine Ev.neg (by omega) ?_
  have := Checksum_loop s (by unfold small; omega) s.size 0 (by omega)
  simpa [sumOf] using this
theorem sealed_cat (s : ByteArray) : cat (cat s ⟨#[35]⟩) (tx (num (sumOf (L s)))) = tx (sealed (L s)) := by
  apply L_inj
  rw [L_cat, L_cat, L_tx, L_tx, L_one]
  simp [sealed]
/-- What AppendChecksum answers. -/
def sealI (l : List UInt8) : List UInt8 × Bool := if l.length ≤ 4000 ∧ 35 ∉ l ∧ (sealed l).length ≤ 4000 then (sealed l, true) else ([], false)
theorem AppendChecksum_ev (s : ByteArray) (hs : s.size ≤ 1000000000) : Ev (fun k => impl_AppendChecksum.f k s) (tx (sealI (L s)).1, (sealI (L s)).2) := by
  have e1 : (⟨#[35]⟩ : ByteArray).size = 1 := rfl
  have hlt := sumOf_lt (L s)
  have hl := num_len_small (show sumOf (L s) < 1000000 by omega)
  unfold impl_AppendChecksum.f
  by_cases h4 : s.size ≤ 4000
  · refine Ev.bind (Checksum_ev s h4) (Ev.pos (by omega) (Ev.bindc (decimal_eq _ (by omega)) (Ev.pos (by rw [cat_size, tx_size, e1]; omega) (Ev.pos rfl (Ev.bindc (contains_eq _ _ (by omega)) ?_)))))
    rw [sealed_cat, tx_size]
    unfold sealI
    by_cases h35 : 35 ∈ L s
    · refine Ev.pos (by simpa using h35) (Ev.const ?_)
      rw [if_neg (fun h => h.2.1 h35)]
      rfl
    · refine Ev.neg (by simpa using h35) ?_
      by_cases hz : (sealed (L s)).length ≤ 4000
      · refine Ev.neg (by omega) (Ev.const ?_)
        rw [if_pos ⟨by rw [L_len]; omega, h35, hz⟩]
      · refine Ev.pos (by omega) (Ev.const ?_)
        rw [if_neg (fun h => hz h.2.2)]
        rfl
  · have hc : Ev (fun k => impl_Checksum.f k s) ((0 : Int), false) := by
      unfold impl_Checksum.f
      exact Ev.pos (by omega) (Ev.const rfl)
    have h0 : num 0 = [48] := by unfold num; rw [Lib.decDigits, dif_pos (by omega)]; rfl
    refine Ev.bind hc (Ev.pos (by omega) (Ev.bindc (decimal_eq 0 (by omega)) (Ev.pos (by rw [cat_size, tx_size, e1, h0]; simp; omega) (Ev.neg (by simp) (Ev.const ?_)))))
    unfold sealI
    rw [if_neg (fun h => h4 (by have := h.1; rw [L_len] at this; omega))]
    rfl
theorem sealI_good {k : Nat} (hk : k < 1000000) {e : Rec} (h : e.good) : sealI (body k e) = (sealed (body k e), true) := by
  have h1 := body_len h hk
  have h2 := seal_len (body k e)
  unfold sealI
  rw [if_pos ⟨by omega, body_nin35 h, by omega⟩]
/-- What EncodeRecord answers. -/
theorem EncodeRecord_ev (k : Int) (c r : ByteArray) (hc : c.size ≤ 10000000000) (hr : r.size ≤ 10000000000) :
    Ev (fun n => impl_EncodeRecord.f n k c r) (if (0 ≤ k ∧ k ≤ 59) ∧ Rec.good ⟨L c, L r⟩ then (tx (line k.toNat ⟨L c, L r⟩), true) else (tx [], false)) := by
  have e2 : (⟨#[32]⟩ : ByteArray).size = 1 := rfl
  have e3 : (⟨#[64]⟩ : ByteArray).size = 1 := rfl
  unfold impl_EncodeRecord.f
  have bad : Ev (fun n => impl_EncodeRecord.j0 n k true c r) (tx [], false) := Ev.last fun n => by
    simp only [impl_EncodeRecord.j0]
    rw [if_pos trivial]
    rfl
  refine Ev.bindc (in_eq _ _ _) ?_
  by_cases hk : 0 ≤ k ∧ k ≤ 59
  · refine Ev.pos (by simpa using hk) (Ev.bindc (IsValidRecord_eq _ _) ?_)
    by_cases hg : Rec.good ⟨L c, L r⟩
    · rw [if_pos ⟨hk, hg⟩, decide_eq_true hg]
      obtain ⟨m, rfl⟩ : ∃ m : Nat, k = (m : Int) := ⟨k.toNat, by omega⟩
      have hn := num_len_small (show m < 1000000 by omega)
      have hb : cat (cat (cat (cat (tx (num m)) ⟨#[32]⟩) c) ⟨#[64]⟩) r = tx (body m ⟨L c, L r⟩) := by
        apply L_inj
        simp only [L_cat, L_tx, L_one]
        simp [body]
      have hbl := body_len hg (show m < 1000000 by omega)
      have ac := AppendChecksum_ev (tx (body m ⟨L c, L r⟩)) (by rw [tx_size]; omega)
      rw [L_tx, sealI_good (by omega) hg] at ac
      have hsl := seal_len (body m ⟨L c, L r⟩)
      refine Ev.step (f := fun n => (impl_decimal.f (m : Int)).bind fun t176 => (if t176.size + 1 ≤ 9223372036854775807 then (if (cat t176 (⟨#[32]⟩ : ByteArray)).size + c.size ≤ 9223372036854775807 then (if (cat (cat t176 (⟨#[32]⟩ : ByteArray)) c).size + 1 ≤ 9223372036854775807 then (if (cat (cat (cat t176 (⟨#[32]⟩ : ByteArray)) c) (⟨#[64]⟩ : ByteArray)).size + r.size ≤ 9223372036854775807 then ((impl_AppendChecksum.f n (cat (cat (cat (cat t176 (⟨#[32]⟩ : ByteArray)) c) (⟨#[64]⟩ : ByteArray)) r)).bind fun bt177 => (if bt177.1.size + 1 ≤ 9223372036854775807 then (some (cat bt177.1 (⟨#[10]⟩ : ByteArray), true)) else (none))) else (none)) else (none)) else (none)) else (none))) (fun n => ?_) ?_
      · simp only [impl_EncodeRecord.j0]
        rw [if_neg (by simp)]
      · refine Ev.bindc (decimal_eq m (by omega)) (Ev.pos (by rw [tx_size]; omega) (Ev.pos (by simp only [cat_size, tx_size, e2]; omega) (Ev.pos (by simp only [cat_size, tx_size, e2]; omega) (Ev.pos (by simp only [cat_size, tx_size, e2, e3]; omega) ?_))))
        rw [hb]
        refine Ev.bind ac (Ev.pos (by show (tx (sealed (body m ⟨L c, L r⟩))).size + 1 ≤ _; rw [tx_size]; omega) (Ev.const (congrArg some ?_)))
        have : cat (tx (sealed (body m ⟨L c, L r⟩))) ⟨#[10]⟩ = tx (line m ⟨L c, L r⟩) := by
          apply L_inj
          simp only [L_cat, L_tx, L_one]
          rfl
        rw [this]
        simp
    · rw [if_neg (fun h => hg h.2), decide_eq_false hg]
      exact bad
  · rw [if_neg (fun h => hk h.1)]
    exact Ev.neg (by simpa using hk) bad
theorem Cut_eq (s : ByteArray) (b : UInt8) (hs : s.size < 4294967281) : ∃ q, strings_Cut.f s ⟨#[b]⟩ = some (tx (upto b (L s)), tx (past b (L s)), q) := by
  refine ⟨(Lib.cut s.data.toList [b]).2.2, ?_⟩
  unfold strings_Cut.f
  rw [if_pos hs]
  have := cut_one b (L s)
  show some ((⟨(Lib.cut (L s) [b]).1.toArray⟩ : ByteArray), (⟨(Lib.cut (L s) [b]).2.1.toArray⟩ : ByteArray), (Lib.cut (L s) [b]).2.2) = _
  rw [this.1, this.2]
  rfl
theorem VerifyChecksum_ev (s : ByteArray) (hs : s.size ≤ 1000000000) :
    Ev (fun k => impl_VerifyChecksum.f k s) (if (sealI (upto 35 (L s))).2 = true ∧ (sealI (upto 35 (L s))).1 = L s then (tx (upto 35 (L s)), true) else (tx [], false)) := by
  unfold impl_VerifyChecksum.f
  obtain ⟨q, hq⟩ := Cut_eq s 35 (by omega)
  have hu := upto_len 35 (L s)
  rw [L_len] at hu
  have ac := AppendChecksum_ev (tx (upto 35 (L s))) (by rw [tx_size]; omega)
  rw [L_tx] at ac
  refine Ev.bindc hq (Ev.bind ac ?_)
  by_cases h1 : (sealI (upto 35 (L s))).2 = true
  · by_cases h2 : (sealI (upto 35 (L s))).1 = L s
    · have hr : (if (sealI (upto 35 (L s))).2 = true ∧ (sealI (upto 35 (L s))).1 = L s then (tx (upto 35 (L s)), true) else (tx [], false)) = (tx (upto 35 (L s)), true) := if_pos ⟨h1, h2⟩
      rw [hr]
      refine Ev.pos h1 (Ev.pos ?_ (Ev.const rfl))
      rw [h2]; rfl
    · have hr : (if (sealI (upto 35 (L s))).2 = true ∧ (sealI (upto 35 (L s))).1 = L s then (tx (upto 35 (L s)), true) else (tx [], false)) = (tx [], false) := if_neg fun h => h2 h.2
      rw [hr]
      refine Ev.pos h1 (Ev.neg (fun h => h2 ?_) (Ev.const rfl))
      have h' : (tx (sealI (upto 35 (L s))).1).toList = s.toList := h
      rw [toList_L, toList_L, L_tx] at h'
      exact h'
  · have hr : (if (sealI (upto 35 (L s))).2 = true ∧ (sealI (upto 35 (L s))).1 = L s then (tx (upto 35 (L s)), true) else (tx [], false)) = (tx [], false) := if_neg fun h => h1 h.1
    rw [hr]
    exact Ev.neg h1 (Ev.const rfl)
theorem past_len (b : UInt8) (l : List UInt8) : (past b l).length ≤ l.length := by
  induction l with
  | nil => simp [past]
  | cons a l ih =>
    unfold past
    split
    · simp
    · simp; omega
/-- The answer of cutRecord: the first record and its length. -/
def cutR (k : Nat) (l : List UInt8) : ByteArray × ByteArray × Int :=
  match first k l with
  | some e => (tx e.c, tx e.r, ((line k e).length : Int))
  | none => (tx [], tx [], 0)
theorem cutRecord_ev (k : Nat) (hk : k ≤ 59) (s : ByteArray) (hs : s.size ≤ 1000000000) : Ev (fun n => impl_cutRecord.f n s (k : Int)) (cutR k (L s)) := by
  unfold impl_cutRecord.f
  obtain ⟨q1, hq1⟩ := Cut_eq s 10 (by omega)
  have hu1 := upto_len 10 (L s)
  rw [L_len] at hu1
  have hu2 := upto_len 35 (upto 10 (L s))
  have vc := VerifyChecksum_ev (tx (upto 10 (L s))) (by rw [tx_size]; omega)
  rw [L_tx] at vc
  obtain ⟨bd, ok, hbd, hbl, hbd2⟩ : ∃ (bd : List UInt8) (ok : Bool), (if (sealI (upto 35 (upto 10 (L s)))).2 = true ∧ (sealI (upto 35 (upto 10 (L s)))).1 = upto 10 (L s) then (tx (upto 35 (upto 10 (L s))), true) else (tx [], false)) = (tx bd, ok) ∧ bd.length ≤ s.size ∧
      ((sealI (upto 35 (upto 10 (L s)))).2 = true ∧ (sealI (upto 35 (upto 10 (L s)))).1 = upto 10 (L s) → bd = upto 35 (upto 10 (L s))) := by
    by_cases h : (sealI (upto 35 (upto 10 (L s)))).2 = true ∧ (sealI (upto 35 (upto 10 (L s)))).1 = upto 10 (L s)
    · exact ⟨_, true, by rw [if_pos h], by omega, fun _ => rfl⟩
    · exact ⟨[], false, by rw [if_neg h], by simp, fun h' => absurd h' h⟩
  rw [hbd] at vc
  have hp1 := past_len 32 bd
  have hp2 := past_len 64 (past 32 bd)
  have hp3 := upto_len 64 (past 32 bd)
  obtain ⟨q2, hq2⟩ := Cut_eq (tx bd) 32 (by rw [tx_size]; omega)
  rw [L_tx] at hq2
  obtain ⟨q3, hq3⟩ := Cut_eq (tx (past 32 bd)) 64 (by rw [tx_size]; omega)
  rw [L_tx] at hq3
  obtain ⟨e, he⟩ : ∃ e : Rec, e = ⟨upto 64 (past 32 bd), past 64 (past 32 bd)⟩ := ⟨_, rfl⟩
  have ec : upto 64 (past 32 bd) = e.c := by rw [he]
  have er : past 64 (past 32 bd) = e.r := by rw [he]
  have en := EncodeRecord_ev (k : Int) (tx e.c) (tx e.r) (by rw [tx_size, ← ec]; omega) (by rw [tx_size, ← er]; omega)
  rw [L_tx, L_tx] at en
  rw [ec, er] at hq3
  refine Ev.bindc hq1 (Ev.bind vc (Ev.bindc hq2 (Ev.bindc hq3 ?_)))
  have bad : ∀ x, Ev (fun n => impl_cutRecord.j0 n x true (tx e.c) (tx e.r)) (tx [], tx [], 0) := fun x => Ev.last fun n => by
    simp only [impl_cutRecord.j0]
    rw [if_pos trivial]
    rfl
  by_cases hg : e.good
  · rw [if_pos ⟨⟨by omega, by omega⟩, hg⟩] at en
    refine Ev.bind en (Ev.pos rfl ?_)
    have hpre : strings_HasPrefix.f s (tx (line (k : Int).toNat ⟨e.c, e.r⟩)) = some (decide (line k e <+: L s)) := by
      unfold strings_HasPrefix.f
      refine congrArg some ?_
      show Lib.hasPrefix (L s) (L (tx (line k e))) = _
      rw [L_tx, Bool.eq_iff_iff]
      simp [Lib.hasPrefix, List.isPrefixOf_iff_prefix]
    refine Ev.bindc hpre ?_
    by_cases hl : line k e <+: L s
    · have hf : first k (L s) = some e := first_some.2 ⟨hg, hl⟩
      rw [decide_eq_true hl]
      have : cutR k (L s) = (tx e.c, tx e.r, ((line k e).length : Int)) := by unfold cutR; rw [hf]
      rw [this]
      refine Ev.last fun n => ?_
      simp only [impl_cutRecord.j0]
      rw [if_neg (by simp), tx_size]
      rfl
    · rw [decide_eq_false hl]
      have hf : first k (L s) = none := by
        refine first_none.2 fun e' he' hl' => hl ?_
        obtain ⟨t, ht⟩ := hl'
        have h1 : upto 10 (L s) = sealed (body k e') := by rw [← ht]; exact line_upto he' t
        have h2 : upto 35 (upto 10 (L s)) = body k e' := by rw [h1]; exact seal_upto (body_nin35 he')
        have h3 := hbd2 (by rw [h2, sealI_good (by omega) he', h1]; exact ⟨rfl, rfl⟩)
        rw [h2] at h3
        rw [h3, body_past, good_upto he', good_past he'] at he
        rw [he]
        exact ⟨t, ht⟩
      have : cutR k (L s) = (tx [], tx [], 0) := by unfold cutR; rw [hf]
      rw [this]
      exact bad _
  · rw [if_neg (fun h => hg h.2)] at en
    refine Ev.bind en (Ev.neg (by simp) ?_)
    have hf : first k (L s) = none := by
      refine first_none.2 fun e' he' hl' => hg ?_
      obtain ⟨t, ht⟩ := hl'
      have h1 : upto 10 (L s) = sealed (body k e') := by rw [← ht]; exact line_upto he' t
      have h2 : upto 35 (upto 10 (L s)) = body k e' := by rw [h1]; exact seal_upto (body_nin35 he')
      have h3 := hbd2 (by rw [h2, sealI_good (by omega) he', h1]; exact ⟨rfl, rfl⟩)
      rw [h2] at h3
      rw [h3, body_past, good_upto he', good_past he'] at he
      rw [he]
      exact he'
    have : cutR k (L s) = (tx [], tx [], 0) := by unfold cutR; rw [hf]
    rw [this]
    exact bad _
end Go.Proofs.YtokmidpeeejahaaDoor.G

/- What the printed functions of the log come to: the program's log, and that it is the reference's. -/
namespace Go.Proofs.YtokmidpeeejahaaDoor.G
open Go.RowKit Go.Proofs.YtokmidpeeejahaaDoorW.PrintWords Go.Proofs.YtokmidpeeejahaaDoorW.PrintLast Go.Proofs.YtokmidpeeejahaaDoor.LogM
set_option linter.unusedVariables false
set_option linter.unusedSimpArgs false

/-- Where records end. -/
def ends : Nat → Nat → List Rec → List Int
  | _, _, [] => []
  | k, p, e :: l => ((p + (line k e).length : Nat) : Int) :: ends (k + 1) (p + (line k e).length) l
theorem ends_length (k p : Nat) (l : List Rec) : (ends k p l).length = l.length := by
  induction l generalizing k p with
  | nil => rfl
  | cons e l ih => simp [ends, ih]
theorem mem_ends {x : Int} {k p : Nat} {l : List Rec} : x ∈ ends k p l ↔ ∃ a b, l = a ++ b ∧ a ≠ [] ∧ x = ((p + (text k a).length : Nat) : Int) := by
  induction l generalizing k p with
  | nil =>
    simp only [ends, List.not_mem_nil, false_iff]
    rintro ⟨a, b, h, ha, _⟩
    exact ha (List.append_eq_nil_iff.1 h.symm).1
  | cons e l ih =>
    rw [ends, List.mem_cons, ih]
    constructor
    · rintro (rfl | ⟨a, b, rfl, ha, rfl⟩)
      · exact ⟨[e], l, rfl, by simp, by simp [text]⟩
      · exact ⟨e :: a, b, rfl, by simp, by simp only [text, List.length_append]; omega⟩
    · rintro ⟨a, b, h, ha, rfl⟩
      cases a with
      | nil => exact absurd rfl ha
      | cons e' a =>
        simp only [List.cons_append, List.cons.injEq] at h
        obtain ⟨rfl, rfl⟩ := h
        by_cases h0 : a = []
        · subst h0; left; simp [text]
        · right; exact ⟨a, b, rfl, h0, by simp only [text, List.length_append]; omega⟩
/-- The last of some ends. -/
def lastOf (x : Int) : List Int → Int
  | [] => x
  | y :: l => lastOf y l
theorem lastOf_ends (k p : Nat) (l : List Rec) : lastOf (p : Int) (ends k p l) = ((p + (text k l).length : Nat) : Int) := by
  induction l generalizing k p with
  | nil => simp [lastOf, ends, text]
  | cons e l ih => simp only [ends, lastOf, text, List.length_append, ih]; omega

theorem readLog_loop (s : ByteArray) (hs : s.size ≤ 1000000000) : ∀ (d k p : Nat) (out : List S40) (es : List Int), d + k = 60 → out.length = k → es.length = k → p ≤ s.size →
    Ev (fun n => impl_readLog.l0 n s out es (p : Int)) (out ++ (recs d k ((L s).drop p)).map toS, es ++ ends k p (recs d k ((L s).drop p))) := by
  intro d
  induction d with
  | zero =>
    intro k p out es hd ho he hp
    have hr : recs 0 k ((L s).drop p) = [] := rfl
    rw [hr]
    refine Ev.last fun n => ?_
    simp only [impl_readLog.l0]
    rw [if_neg (by omega)]
    simp [ends]
  | succ d ih =>
    intro k p out es hd ho he hp
    have hsub : subs s (p : Int).toNat s.size = tx ((L s).drop p) := by rw [subs_from]; simp
    have hdl : ((L s).drop p).length ≤ s.size := by rw [List.length_drop, L_len]; omega
    refine Ev.step (f := fun n => (impl_cutRecord.f n (subs s (p : Int).toNat s.size) (out.length : Int)).bind fun bt200 => (if bt200.2.2 = 0 then (some (out, es)) else (if out.length < 4398046511104 then (if es.length < 17592186044416 then (impl_readLog.l0 n s (out ++ [(⟨bt200.1, bt200.2.1⟩ : S40)]) (es ++ [wrap64 ((p : Int) + bt200.2.2)]) (wrap64 ((p : Int) + bt200.2.2))) else (none)) else (none)))) (fun n => ?_) ?_
    · simp only [impl_readLog.l0]
      rw [if_pos (by omega), if_pos (by omega), if_pos (by omega)]
    · rw [hsub]
      have cr := cutRecord_ev k (by omega) (tx ((L s).drop p)) (by rw [tx_size]; omega)
      rw [← ho, L_tx] at cr
      refine Ev.bind cr ?_
      rw [ho]
      cases hf : first k ((L s).drop p) with
      | none =>
        have h0 : cutR k ((L s).drop p) = (tx [], tx [], 0) := by unfold cutR; rw [hf]
        rw [h0]
        refine Ev.pos rfl (Ev.const ?_)
        rw [recs_none hf]
        simp [ends]
      | some e =>
        have h0 : cutR k ((L s).drop p) = (tx e.c, tx e.r, ((line k e).length : Int)) := by unfold cutR; rw [hf]
        have hl := line_pos k e
        have hle : (line k e).length ≤ s.size - p := by
          have := (first_some.1 hf).2.length_le
          rw [List.length_drop, L_len] at this
          exact this
        rw [h0]
        refine Ev.neg (by show ¬ ((line k e).length : Int) = 0; omega) (Ev.pos (by omega) (Ev.pos (by omega) ?_))
        show Ev (fun n => impl_readLog.l0 n s (out ++ [(⟨tx e.c, tx e.r⟩ : S40)]) (es ++ [wrap64 ((p : Int) + ((line k e).length : Int))]) (wrap64 ((p : Int) + ((line k e).length : Int)))) _
        rw [w64 (by omega) (by omega)]
        have := ih (k + 1) (p + (line k e).length) (out ++ [toS e]) (es ++ [((p + (line k e).length : Nat) : Int)]) (by omega) (by simp [ho]) (by simp [he]) (by omega)
        rw [← List.drop_drop] at this
        rw [recs_some hf, List.map_cons, ends]
        have e1 : (p : Int) + ((line k e).length : Int) = ((p + (line k e).length : Nat) : Int) := by omega
        rw [e1]
        have e3 : ∀ (Y : List S40), out ++ toS e :: Y = (out ++ [toS e]) ++ Y := by simp
        have e4 : ∀ (x : Int) (Y : List Int), es ++ x :: Y = (es ++ [x]) ++ Y := by simp
        rw [e3, e4 _ (ends _ _ _)]
        exact this
theorem readLog_ev (s : ByteArray) (hs : s.size ≤ 1000000000) : Ev (fun n => impl_readLog.f n s) ((all (L s)).map toS, ends 0 0 (all (L s))) := by
  have := readLog_loop s hs 60 0 0 [] [] rfl rfl rfl (by omega)
  simpa [impl_readLog.f, all] using this
theorem records_loop (rs : List S40) (es : List Int) (D P : ByteArray) (n : Int) (hes : es.length ≤ 60) (hD : D.size ≤ 1000000000) (hP : P.size ≤ 1000000000) : ∀ (d i : Nat) (x : Int) (b : Bool), i + d = es.length →
    Ev (fun k => impl_Log_records.l0 k rs x b es (es.length : Int) (i : Int) D P n)
      (rs, decide ((b = true ∨ (D.size : Int) ∈ es.drop i) ∧ lastOf x (es.drop i) = ((D.size + P.size : Nat) : Int) ∧ n = (rs.length : Int))) := by
  intro d
  induction d with
  | zero =>
    intro i x b hi
    have hd : es.drop i = [] := List.drop_eq_nil_of_le (by omega)
    rw [hd]
    refine Ev.last fun k => ?_
    simp only [impl_Log_records.l0]
    rw [if_neg (by omega), w64 (by omega) (by omega)]
    simp only [lastOf, List.not_mem_nil, or_false]
    by_cases hb : b = true
    · rw [if_pos hb]
      by_cases hx : x = ((D.size : Int) + (P.size : Int))
      · rw [if_pos hx]
        have : x = ((D.size + P.size : Nat) : Int) := by omega
        simp only [hb, this, true_and]
        have e : (n == (rs.length : Int)) = decide (n = (rs.length : Int)) := by rw [Bool.eq_iff_iff]; simp
        rw [e]
      · rw [if_neg hx, decide_eq_false (fun h => hx (by have := h.2.1; omega))]
    · rw [if_neg hb, decide_eq_false (fun h => hb h.1)]
  | succ d ih =>
    intro i x b hi
    have hlt : i < es.length := by omega
    have hdr : es.drop i = es[i] :: es.drop (i + 1) := List.drop_eq_getElem_cons hlt
    have hrd : rd es (i : Int) = es[i] := by
      unfold rd
      rw [Int.toNat_natCast, List.getD_eq_getElem?_getD, List.getElem?_eq_getElem hlt]; rfl
    have e1 : wrap64 ((i : Int) + 1) = ((i + 1 : Nat) : Int) := by rw [w64 (by omega) (by omega)]; omega
    by_cases hb : b = true
    · refine Ev.step (f := fun k => impl_Log_records.l0 k rs es[i] true es (es.length : Int) ((i + 1 : Nat) : Int) D P n) (fun k => ?_) ?_
      · simp only [impl_Log_records.l0]
        rw [if_pos (by omega), if_pos (by omega), if_pos (by omega), if_pos hb, hrd, e1]
      · have := ih (i + 1) es[i] true (by omega)
        rw [hdr, lastOf]
        have e : (decide ((b = true ∨ (D.size : Int) ∈ es[i] :: es.drop (i + 1)) ∧ lastOf es[i] (es.drop (i + 1)) = ((D.size + P.size : Nat) : Int) ∧ n = (rs.length : Int))) = decide ((true = true ∨ (D.size : Int) ∈ es.drop (i + 1)) ∧ lastOf es[i] (es.drop (i + 1)) = ((D.size + P.size : Nat) : Int) ∧ n = (rs.length : Int)) := by
          rw [decide_eq_decide]
          simp [hb]
        rw [e]
        exact this
    · refine Ev.step (f := fun k => impl_Log_records.l0 k rs es[i] (es[i] == (D.size : Int)) es (es.length : Int) ((i + 1 : Nat) : Int) D P n) (fun k => ?_) ?_
      · simp only [impl_Log_records.l0]
        rw [if_pos (by omega), if_pos (by omega), if_pos (by omega), if_neg hb, hrd, e1]
      · have := ih (i + 1) es[i] (es[i] == (D.size : Int)) (by omega)
        rw [hdr, lastOf]
        have e : (decide ((b = true ∨ (D.size : Int) ∈ es[i] :: es.drop (i + 1)) ∧ lastOf es[i] (es.drop (i + 1)) = ((D.size + P.size : Nat) : Int) ∧ n = (rs.length : Int))) = decide (((es[i] == (D.size : Int)) = true ∨ (D.size : Int) ∈ es.drop (i + 1)) ∧ lastOf es[i] (es.drop (i + 1)) = ((D.size + P.size : Nat) : Int) ∧ n = (rs.length : Int)) := by
          rw [decide_eq_decide, List.mem_cons]
          have c : ((D.size : Int) = es[i]) ↔ ((es[i] == (D.size : Int)) = true) := ⟨fun h => by rw [h]; exact beq_self_eq_true _, fun h => (beq_iff_eq.1 h).symm⟩
          simp only [hb, c, false_or, Bool.false_eq_true]
        rw [e]
        exact this
/-- Some end lies at the durable part's end just if that part is whole records. -/
theorem durable_iff (D P : List UInt8) : (D = [] ∨ ((D.length : Nat) : Int) ∈ ends 0 0 (all (D ++ P))) ↔ endOf D = D.length := by
  constructor
  · intro h
    obtain ⟨l, m, hlm, hl⟩ : ∃ l m, all (D ++ P) = l ++ m ∧ (text 0 l).length = D.length := by
      rcases h with rfl | h
      · exact ⟨[], _, rfl, rfl⟩
      · obtain ⟨a, b, h1, _, h2⟩ := mem_ends.1 h
        exact ⟨a, b, h1, by omega⟩
    have hp : text 0 (l ++ m) <+: D ++ P := by
      rw [← hlm]; exact recs_prefix 60 0 (D ++ P)
    have hp' : text 0 l <+: D ++ P := by
      rw [text_append] at hp
      exact (List.prefix_append _ _).trans hp
    have hD : text 0 l = D := by
      have h1 := List.prefix_iff_eq_take.1 hp'
      rw [hl, List.take_left] at h1
      exact h1
    have hg : ∀ e ∈ l, e.good := fun e he => all_good (D ++ P) e (by rw [hlm]; exact List.mem_append_left _ he)
    have hn : l.length ≤ 60 := by
      have := all_length (D ++ P)
      rw [hlm, List.length_append] at this
      omega
    have := endOf_text l hg hn
    rw [hD] at this
    exact this
  · intro h
    have hD := whole_text h
    have hx : all (D ++ P) = all D ++ recs (60 - (all D).length) (0 + (all D).length) P := by
      have := recs_of (all D) (all_good D) 60 0 P (all_length D)
      rw [hD] at this
      exact this
    by_cases h0 : all D = []
    · left
      rw [h0] at hD
      exact hD.symm
    · right
      rw [hx, mem_ends]
      refine ⟨_, _, rfl, h0, ?_⟩
      rw [hD]; omega
/-- What records answers. -/
theorem Log_records_ev (D P : ByteArray) (n : Int) (hD : D.size ≤ 140737488351232) (hP : P.size ≤ 140737488351232) :
    ∃ rs, Ev (fun k => impl_Log_records.f k D P n) (rs, decide (vlog (L D) (L P) n)) ∧ (vlog (L D) (L P) n → rs = (all (L D ++ L P)).map toS) := by
  unfold impl_Log_records.f
  have hw : wrap64 ((D.size : Int) + (P.size : Int)) = (D.size : Int) + (P.size : Int) := w64 (by omega) (by omega)
  by_cases hb : D.size + P.size ≤ 30000
  · refine ⟨(all (L D ++ L P)).map toS, ?_, fun _ => rfl⟩
    refine Ev.neg (by rw [hw]; omega) (Ev.pos (by omega) ?_)
    have r := readLog_ev (cat D P) (by rw [cat_size]; omega)
    rw [L_cat] at r
    refine Ev.bind r ?_
    have hle : (ends 0 0 (all (L D ++ L P))).length ≤ 60 := by rw [ends_length]; exact all_length _
    have l := records_loop ((all (L D ++ L P)).map toS) (ends 0 0 (all (L D ++ L P))) D P n hle (by omega) (by omega) _ 0 0 (D.toList == ([] : List UInt8)) (Nat.zero_add _)
    have e : decide (((D.toList == ([] : List UInt8)) = true ∨ (D.size : Int) ∈ (ends 0 0 (all (L D ++ L P))).drop 0) ∧ lastOf 0 ((ends 0 0 (all (L D ++ L P))).drop 0) = ((D.size + P.size : Nat) : Int) ∧ n = (((all (L D ++ L P)).map toS).length : Int)) = decide (vlog (L D) (L P) n) := by
      rw [decide_eq_decide, List.drop_zero, toList_L]
      have h1 := durable_iff (L D) (L P)
      have h2 := lastOf_ends 0 0 (all (L D ++ L P))
      rw [L_len] at h1
      have h3 : lastOf 0 (ends 0 0 (all (L D ++ L P))) = (endOf (L D ++ L P) : Int) := by
        rw [Nat.zero_add] at h2
        exact h2
      rw [h3, List.length_map]
      simp only [beq_iff_eq]
      rw [h1]
      unfold vlog
      rw [L_len, L_len]
      constructor
      · rintro ⟨a, b, c⟩; exact ⟨hb, by omega, a, c.symm⟩
      · rintro ⟨_, a, b, c⟩; exact ⟨b, by omega, c.symm⟩
    rw [e] at l
    exact l
  · refine ⟨[], Ev.pos (by rw [hw]; omega) (Ev.const ?_), fun h => absurd h.1 hb⟩
    rw [decide_eq_false (fun h => hb h.1)]
theorem IsValidLogI_ev (D P : ByteArray) (n : Int) (hD : D.size ≤ 140737488351232) (hP : P.size ≤ 140737488351232) : Ev (fun k => impl_IsValidLog.f k D P n) (decide (vlog (L D) (L P) n)) := by
  obtain ⟨rs, h, _⟩ := Log_records_ev D P n hD hP
  exact Ev.bind h (Ev.const rfl)
end Go.Proofs.YtokmidpeeejahaaDoor.G

/- The laws of the log, in plain Lean: the printed function of a law answers true. -/
namespace Go.Proofs.YtokmidpeeejahaaDoor.G
open Go.RowKit Go.Proofs.YtokmidpeeejahaaDoorW.PrintWords Go.Proofs.YtokmidpeeejahaaDoorW.PrintLast Go.Proofs.YtokmidpeeejahaaDoor.LogM
set_option linter.unusedVariables false
set_option linter.unusedSimpArgs false

end Go.Proofs.YtokmidpeeejahaaDoor.G

/- The law of SyncLog, in plain Lean: the printed function of the law answers true. -/
namespace Go.Proofs.YtokmidpeeejahaaDoor.G
open Go.RowKit Go.Proofs.YtokmidpeeejahaaDoorW.PrintWords Go.Proofs.YtokmidpeeejahaaDoorW.PrintLast Go.Proofs.YtokmidpeeejahaaDoor.LogM
set_option linter.unusedVariables false
set_option linter.unusedSimpArgs false

/-- What SyncLog answers. -/
def syncR (D P : ByteArray) (n : Int) : ByteArray × ByteArray × Int × Bool := if vlog (L D) (L P) n then (cat D P, ⟨#[]⟩, n, true) else (⟨#[]⟩, ⟨#[]⟩, 0, false)
theorem SyncLogS_ev (D P : ByteArray) (n : Int) (hD : D.size ≤ 140737488351232) (hP : P.size ≤ 140737488351232) : Ev (fun k => spec_SyncLog.f k D P n) (syncR D P n) := by
  unfold spec_SyncLog.f syncR
  refine Ev.bind (l27Log_ev D P n hD hP) ?_
  by_cases h : vlog (L D) (L P) n
  · rw [if_pos h]
    exact Ev.pos (decide_eq_true h) (Ev.pos (by omega) (Ev.const rfl))
  · rw [if_neg h]
    exact Ev.neg (by simpa using h) (Ev.const rfl)
theorem SyncLogI_ev (D P : ByteArray) (n : Int) (hD : D.size ≤ 140737488351232) (hP : P.size ≤ 140737488351232) : Ev (fun k => impl_SyncLog.f k D P n) (syncR D P n) := by
  unfold impl_SyncLog.f syncR
  refine Ev.bind (IsValidLogI_ev D P n hD hP) ?_
  by_cases h : vlog (L D) (L P) n
  · rw [if_pos h]
    exact Ev.pos (decide_eq_true h) (Ev.pos (by omega) (Ev.const rfl))
  · rw [if_neg h]
    exact Ev.neg (by simpa using h) (Ev.const rfl)
end Go.Proofs.YtokmidpeeejahaaDoor.G

/- The law of AppendRecord, in plain Lean: the printed function of the law answers true. -/
namespace Go.Proofs.YtokmidpeeejahaaDoor.G
open Go.RowKit Go.Proofs.YtokmidpeeejahaaDoorW.PrintWords Go.Proofs.YtokmidpeeejahaaDoorW.PrintLast Go.Proofs.YtokmidpeeejahaaDoor.LogM
set_option linter.unusedVariables false
set_option linter.unusedSimpArgs false

/-- What AppendRecord answers. -/
def appR (D P : ByteArray) (n : Int) (C R : ByteArray) : ByteArray × ByteArray × Int × Int :=
  if vlog (L D) (L P) n ∧ Rec.good ⟨L C, L R⟩ then (if n = 60 then (D, P, n, 2) else (D, cat P (tx (line n.toNat ⟨L C, L R⟩)), n + 1, 0)) else (D, P, n, 1)
theorem vlog_count {D P : List UInt8} {n : Int} (h : vlog D P n) : 0 ≤ n ∧ n ≤ 60 := by
  have := all_length (D ++ P)
  have := h.2.2.2
  omega
theorem AppendRecordS_ev (D P : ByteArray) (n : Int) (C R : ByteArray) (hD : D.size ≤ 140737488351232) (hP : P.size ≤ 140737488351232) (hC : C.size ≤ 1048576) (hR : R.size ≤ 1048576) :
    Ev (fun k => spec_AppendRecord.f k D P n C R) (appR D P n C R) := by
  unfold spec_AppendRecord.f appR
  have bad : ∀ x : Nat, Ev (fun k => spec_AppendRecord.j0 k true D P n C R) (D, P, n, 1) := fun x => Ev.last fun k => by
    simp only [spec_AppendRecord.j0]
    rw [if_pos trivial]
  refine Ev.bind (l27Log_ev D P n hD hP) ?_
  by_cases h : vlog (L D) (L P) n
  · refine Ev.pos (decide_eq_true h) (Ev.bind (l27Good_ev C R (by unfold small; omega) (by unfold small; omega)) ?_)
    by_cases hg : Rec.good ⟨L C, L R⟩
    · rw [if_pos ⟨h, hg⟩, decide_eq_true hg]
      obtain ⟨c0, c1⟩ := vlog_count h
      by_cases h60 : n = 60
      · rw [if_pos h60]
        refine Ev.last fun k => ?_
        simp only [spec_AppendRecord.j0]
        rw [if_neg (by simp), if_pos h60]
      · rw [if_neg h60]
        have hc : C.size ≤ 160 := by have := hg.2.1; rwa [L_len] at this
        have hr : R.size ≤ 200 := by have := hg.2.2.2.2.1; rwa [L_len] at this
        refine Ev.step (f := fun k => (spec_l27Line.f k n C R).bind fun t266 => (if P.size + t266.size ≤ 9223372036854775807 then (some (D, cat P t266, wrap64 (n + 1), (0 : Int))) else (none))) (fun k => ?_) ?_
        · simp only [spec_AppendRecord.j0]
          rw [if_neg (by simp), if_neg h60]
        · obtain ⟨m, rfl⟩ : ∃ m : Nat, n = (m : Int) := ⟨n.toNat, by omega⟩
          refine Ev.bind (l27Line_ev m (by omega) C R (by omega) (by omega)) (Ev.pos ?_ (Ev.const ?_))
          · rw [tx_size]
            have := line_len hg (show m < 1000000 by omega)
            omega
          · rw [w64 (by omega) (by omega)]
            rfl
    · rw [if_neg (fun x => hg x.2), decide_eq_false hg]
      exact bad 0
  · rw [if_neg (fun x => h x.1)]
    exact Ev.neg (by simpa using h) (bad 0)
theorem AppendRecordI_ev (D P : ByteArray) (n : Int) (C R : ByteArray) (hD : D.size ≤ 140737488351232) (hP : P.size ≤ 140737488351232) (hC : C.size ≤ 1048576) (hR : R.size ≤ 1048576) :
    Ev (fun k => impl_AppendRecord.f k D P n C R) (appR D P n C R) := by
  unfold impl_AppendRecord.f appR
  have bad : ∀ x : Nat, Ev (fun k => impl_AppendRecord.j0 k true D P n C R) (D, P, n, 1) := fun x => Ev.last fun k => by
    simp only [impl_AppendRecord.j0]
    rw [if_pos trivial]
  refine Ev.bind (IsValidLogI_ev D P n hD hP) ?_
  by_cases h : vlog (L D) (L P) n
  · refine Ev.pos (decide_eq_true h) (Ev.bindc (IsValidRecord_eq _ _) ?_)
    by_cases hg : Rec.good ⟨L C, L R⟩
    · rw [if_pos ⟨h, hg⟩, decide_eq_true hg]
      obtain ⟨c0, c1⟩ := vlog_count h
      have hc : C.size ≤ 160 := by have := hg.2.1; rwa [L_len] at this
      have hr : R.size ≤ 200 := by have := hg.2.2.2.2.1; rwa [L_len] at this
      have en := EncodeRecord_ev n C R (by omega) (by omega)
      refine Ev.step (f := fun k => (impl_EncodeRecord.f k n C R).bind fun bt275 => (if bt275.2 = true then (if P.size + bt275.1.size ≤ 9223372036854775807 then (some (D, cat P bt275.1, wrap64 (n + 1), (0 : Int))) else (none)) else (some (D, P, n, 2)))) (fun k => ?_) ?_
      · simp only [impl_AppendRecord.j0]
        rw [if_neg (by simp)]
      · by_cases h60 : n = 60
        · rw [if_neg (fun x => by omega)] at en
          rw [if_pos h60]
          exact Ev.bind en (Ev.neg (by simp) (Ev.const rfl))
        · rw [if_pos ⟨by omega, hg⟩] at en
          rw [if_neg h60]
          refine Ev.bind en (Ev.pos rfl (Ev.pos ?_ (Ev.const ?_)))
          · show P.size + (tx _).size ≤ _
            rw [tx_size]
            have := line_len hg (show n.toNat < 1000000 by omega)
            omega
          · rw [w64 (by omega) (by omega)]
    · rw [if_neg (fun x => hg x.2), decide_eq_false hg]
      exact bad 0
  · rw [if_neg (fun x => h x.1)]
    exact Ev.neg (by simpa using h) (bad 0)
end Go.Proofs.YtokmidpeeejahaaDoor.G

/- The draws of the log's laws, in plain Lean: they answer, and what they answer is small. -/
namespace Go.Proofs.YtokmidpeeejahaaDoor.G
open Go.RowKit Go.Proofs.YtokmidpeeejahaaDoorW.PrintWords Go.Proofs.YtokmidpeeejahaaDoorW.PrintLast Go.Proofs.YtokmidpeeejahaaDoor.LogM
set_option linter.unusedVariables false
set_option linter.unusedSimpArgs false

theorem and255 (x : Int) : 0 ≤ Go.bits .and .u64 x 255 ∧ Go.bits .and .u64 x 255 ≤ 255 := by
  have h : (BitVec.ofInt IntKind.u64.bits x &&& BitVec.ofInt IntKind.u64.bits 255).toNat ≤ 255 := by
    rw [BitVec.toNat_and]
    exact Nat.le_trans Nat.and_le_right (by decide)
  have e : Go.bits .and .u64 x 255 = IntKind.u64.wrap ((BitVec.ofInt IntKind.u64.bits x &&& BitVec.ofInt IntKind.u64.bits 255).toNat : Int) := rfl
  rw [e]
  generalize (BitVec.ofInt IntKind.u64.bits x &&& BitVec.ofInt IntKind.u64.bits 255).toNat = n at h
  have e2 : IntKind.u64.wrap (n : Int) = (n : Int) % 18446744073709551616 := by
    simp [IntKind.wrap, IntKind.bits, IntKind.signed]
  rw [e2]
  omega
/-- The code that draws read. -/
def isCode (l : List Int) : Prop := (∀ x ∈ l, 0 ≤ x ∧ x ≤ 255) ∧ l.length ≤ 65536
theorem next_ok (l : List Int) (hl : isCode l) (at_ s : Int) (h0 : 0 ≤ at_) (h1 : at_ ≤ 1000000) : ∃ x a t, spec_l1Cur_next.f l at_ s = some (x, a, t) ∧ 0 ≤ x ∧ x ≤ 255 ∧ a = at_ + 1 := by
  have ea : wrap64 (at_ + 1) = at_ + 1 := w64 (by omega) (by omega)
  have key : ∀ z, wrap64 (Go.bits .and .u64 z 255) = Go.bits .and .u64 z 255 := fun z => by
    have := and255 z
    exact w64 (by omega) (by omega)
  unfold spec_l1Cur_next.f
  rw [ea]
  by_cases h : at_ < (l.length : Int)
  · have hr : 0 ≤ rd l at_ ∧ rd l at_ ≤ 255 := by
      unfold rd
      have hlt : at_.toNat < l.length := by omega
      rw [List.getD_eq_getElem?_getD, List.getElem?_eq_getElem hlt]
      exact hl.1 _ (List.getElem_mem hlt)
    rw [if_pos h, if_pos h0]
    rw [if_pos (by omega)]
    refine ⟨_, _, _, rfl, ?_, ?_, rfl⟩
    · rw [w64 (by omega) (by omega)]; exact hr.1
    · rw [w64 (by omega) (by omega)]; exact hr.2
  · rw [if_neg h]
    by_cases h2 : at_ + 1 ≤ (l.length : Int)
    · omega
    · rw [if_neg h2]
      refine ⟨_, _, _, rfl, ?_, ?_, rfl⟩
      · rw [key]; exact (and255 _).1
      · rw [key]; exact (and255 _).2
theorem pick_ok (l : List Int) (hl : isCode l) (at_ s n : Int) (h0 : 0 ≤ at_) (h1 : at_ ≤ 900000) : ∃ x a t, spec_l1Cur_pick.f l at_ s n = some (x, a, t) ∧ 0 ≤ x ∧ (x = 0 ∨ x < n) ∧ at_ ≤ a ∧ a ≤ at_ + 2 := by
  unfold spec_l1Cur_pick.f
  by_cases h : n ≤ 1
  · rw [if_pos h]
    exact ⟨_, _, _, rfl, by omega, .inl rfl, by omega, by omega⟩
  · rw [if_neg h]
    obtain ⟨x, a, t, e, hx0, hx1, rfl⟩ := next_ok l hl at_ s h0 (by omega)
    rw [e]
    simp only [Option.bind_some]
    by_cases h2 : n > 200
    · rw [if_pos h2]
      obtain ⟨y, b, u, e2, hy0, hy1, rfl⟩ := next_ok l hl (at_ + 1) t (by omega) (by omega)
      rw [e2]
      simp only [Option.bind_some]
      rw [if_neg (by omega)]
      have ew : wrap64 (wrap64 (x * 256) + y) = x * 256 + y := by rw [w64 (x := x * 256) (by omega) (by omega), w64 (by omega) (by omega)]
      refine ⟨_, _, _, rfl, ?_, .inr ?_, by omega, by omega⟩
      · rw [ew]; exact Int.tmod_nonneg _ (by omega)
      · rw [ew]; exact Int.tmod_lt_of_pos _ (by omega)
    · rw [if_neg h2, if_neg (by omega)]
      exact ⟨_, _, _, rfl, Int.tmod_nonneg _ hx0, .inr (Int.tmod_lt_of_pos _ (by omega)), by omega, by omega⟩
theorem one_ok (l : List Int) (hl : isCode l) (at_ s n : Int) (h0 : 0 ≤ at_) (h1 : at_ ≤ 900000) : ∃ x a t, spec_l1Cur_one.f l at_ s n = some (x, a, t) ∧ at_ ≤ a ∧ a ≤ at_ + 2 := by
  obtain ⟨x, a, t, e, _, _, ha, hb⟩ := pick_ok l hl at_ s n h0 h1
  unfold spec_l1Cur_one.f
  rw [e]
  exact ⟨_, _, _, rfl, ha, hb⟩
theorem of_ok (l : List Int) (hl : isCode l) (at_ s : Int) (m : List ByteArray) (hm : 0 < m.length) (h0 : 0 ≤ at_) (h1 : at_ ≤ 900000) : ∃ x a t, spec_l1Cur_of.f l at_ s m = some (x, a, t) ∧ x ∈ m ∧ at_ ≤ a ∧ a ≤ at_ + 2 := by
  obtain ⟨x, a, t, e, hx0, hx1, ha, hb⟩ := pick_ok l hl at_ s (m.length : Int) h0 h1
  unfold spec_l1Cur_of.f
  rw [e]
  simp only [Option.bind_some]
  rw [if_pos hx0, if_pos (by omega)]
  refine ⟨_, _, _, rfl, ?_, ha, hb⟩
  unfold rdOf
  have hlt : x.toNat < m.length := by omega
  rw [List.getD_eq_getElem?_getD, List.getElem?_eq_getElem hlt]
  exact List.getElem_mem hlt
theorem of_small {l : List Int} (hl : isCode l) {at_ s : Int} {m : List ByteArray} (hm : 0 < m.length) (hs : ∀ t ∈ m, t.size ≤ 20) (h0 : 0 ≤ at_) (h1 : at_ ≤ 900000) : ∃ x a t, spec_l1Cur_of.f l at_ s m = some (x, a, t) ∧ x.size ≤ 20 ∧ at_ ≤ a ∧ a ≤ at_ + 2 := by
  obtain ⟨x, a, t, e, hx, ha, hb⟩ := of_ok l hl at_ s m hm h0 h1
  exact ⟨x, a, t, e, hs x hx, ha, hb⟩
theorem logRecord_ok (l : List Int) (hl : isCode l) (at_ s : Int) (h0 : 0 ≤ at_) (h1 : at_ ≤ 800000) : ∃ c r a t, spec_l1Cur_logRecord.f l at_ s = some (c, r, a, t) ∧ c.size ≤ 20 ∧ r.size ≤ 20 ∧ at_ ≤ a ∧ a ≤ at_ + 8 := by
  unfold spec_l1Cur_logRecord.f
  obtain ⟨x1, a1, t1, e1, s1, p1, q1⟩ := of_small hl (s := s) (m := [(⟨#[99, 111, 117, 110, 116]⟩ : ByteArray), (⟨#[115, 111, 114, 116, 32, 109, 101, 114, 103, 101]⟩ : ByteArray), (⟨#[120]⟩ : ByteArray), (⟨#[115, 101, 108, 101, 99, 116, 32, 50]⟩ : ByteArray), (⟨#[48, 32, 49]⟩ : ByteArray)]) (by decide) (by decide) h0 (by omega)
  rw [e1]
  simp only [Option.bind_some]
  obtain ⟨x2, a2, t2, e2, s2, p2, q2⟩ := of_small hl (at_ := a1) (s := t1) (m := [(⟨#[]⟩ : ByteArray), (⟨#[51]⟩ : ByteArray), (⟨#[63]⟩ : ByteArray), (⟨#[97, 64, 98]⟩ : ByteArray), (⟨#[51, 32, 49, 32, 50]⟩ : ByteArray)]) (by decide) (by decide) (by omega) (by omega)
  rw [e2]
  simp only [Option.bind_some]
  obtain ⟨x3, a3, t3, e3, _, _, p3, q3⟩ := pick_ok l hl a2 t2 24 (by omega) (by omega)
  rw [e3]
  simp only [Option.bind_some]
  by_cases c0 : x3 = 0
  · rw [if_pos c0, if_pos (by omega)]
    obtain ⟨x4, a4, t4, e4, s4, p4, q4⟩ := of_small hl (at_ := a3) (s := t3) (m := [(⟨#[]⟩ : ByteArray), (⟨#[97, 64, 98]⟩ : ByteArray), (⟨#[97, 35]⟩ : ByteArray), (⟨#[10]⟩ : ByteArray), strOfNums (List.replicate 3 0)]) (by decide) (by decide) (by omega) (by omega)
    rw [e4]
    exact ⟨x4, x2, a4, t4, rfl, s4, s2, by omega, by omega⟩
  · rw [if_neg c0]
    by_cases c1 : x3 = 1
    · rw [if_pos c1]
      obtain ⟨x4, a4, t4, e4, s4, p4, q4⟩ := of_small hl (at_ := a3) (s := t3) (m := [(⟨#[35]⟩ : ByteArray), (⟨#[10]⟩ : ByteArray), (⟨#[127]⟩ : ByteArray)]) (by decide) (by decide) (by omega) (by omega)
      rw [e4]
      exact ⟨x1, x4, a4, t4, rfl, s1, s4, by omega, by omega⟩
    · rw [if_neg c1]
      exact ⟨x1, x2, a3, t3, rfl, s1, s2, by omega, by omega⟩
theorem log_loop (l : List Int) (hl : isCode l) : ∀ (d : Nat) (at_ s : Int) (D P : ByteArray) (n : Int) (A : Nat), 0 ≤ at_ → at_ + 20 * d ≤ 800000 → D.size + P.size + 500 * d ≤ 100000 →
    ∃ D' P' n' a t, Ev (fun k => spec_l1Cur_log.l0 k (d : Int) l at_ s D P n) (D', P', n', a, t) ∧ D'.size + P'.size ≤ D.size + P.size + 500 * d ∧ at_ ≤ a ∧ a ≤ at_ + 20 * d := by
  intro d
  induction d with
  | zero =>
    intro at_ s D P n A h0 h1 hs
    refine ⟨D, P, n, at_, s, Ev.last fun k => ?_, by omega, by omega, by omega⟩
    simp only [spec_l1Cur_log.l0]
    rw [if_neg (by omega)]
  | succ d ih =>
    intro at_ s D P n A h0 h1 hs
    obtain ⟨c, r, a1, t1, e1, sc, sr, p1, q1⟩ := logRecord_ok l hl at_ s h0 (by omega)
    obtain ⟨b, a2, t2, e2, p2, q2⟩ := one_ok l hl a1 t1 4 (by omega) (by omega)
    have ap := AppendRecordS_ev D P n c r (by omega) (by omega) (by omega) (by omega)
    have hap : (appR D P n c r).1.size + (appR D P n c r).2.1.size ≤ D.size + P.size + 500 := by
      unfold appR
      split
      · split
        · show D.size + P.size ≤ _; omega
        · rename_i hv _
          show D.size + (cat P (tx (line n.toNat ⟨L c, L r⟩))).size ≤ _
          have hc := vlog_count hv.1
          have := line_len hv.2 (show n.toNat < 1000000 by omega)
          rw [cat_size, tx_size]
          omega
      · show D.size + P.size ≤ _; omega
    have ew : wrap64 (((d + 1 : Nat) : Int) - 1) = (d : Int) := by rw [w64 (by omega) (by omega)]; omega
    generalize appR D P n c r = R at ap hap
    obtain ⟨D1, P1, n1, w1⟩ := R
    have hap' : D1.size + P1.size ≤ D.size + P.size + 500 := hap
    cases b with
    | false =>
      obtain ⟨D', P', n', a, t, hE, hS, ha, hb⟩ := ih a2 t2 D1 P1 n1 A (by omega) (by omega) (by omega)
      refine ⟨D', P', n', a, t, ?_, by omega, by omega, by omega⟩
      refine Ev.step (f := fun k => (spec_l1Cur_logRecord.f l at_ s).bind fun bt432 => ((spec_AppendRecord.f k D P n bt432.1 bt432.2.1).bind fun bt436 => ((spec_l1Cur_one.f l bt432.2.2.1 bt432.2.2.2 4).bind fun bt440 => (if bt440.1 = true then ((spec_SyncLog.f k bt436.1 bt436.2.1 bt436.2.2.1).bind fun bt443 => (spec_l1Cur_log.l0 k (wrap64 (((d + 1 : Nat) : Int) - 1)) l bt440.2.1 bt440.2.2 bt443.1 bt443.2.1 bt443.2.2.1)) else (spec_l1Cur_log.l0 k (wrap64 (((d + 1 : Nat) : Int) - 1)) l bt440.2.1 bt440.2.2 bt436.1 bt436.2.1 bt436.2.2.1))))) (fun k => ?_) ?_
      · simp only [spec_l1Cur_log.l0]
        rw [if_pos (by omega)]
      · rw [ew]
        exact Ev.bindc e1 (Ev.bind ap (Ev.bindc e2 (Ev.neg (by simp) hE)))
    | true =>
      have sy := SyncLogS_ev D1 P1 n1 (by omega) (by omega)
      have hsy : (syncR D1 P1 n1).1.size + (syncR D1 P1 n1).2.1.size ≤ D1.size + P1.size := by
        unfold syncR
        split
        · show (cat D1 P1).size + 0 ≤ _
          rw [cat_size]; omega
        · show 0 + 0 ≤ _; omega
      generalize syncR D1 P1 n1 = R2 at sy hsy
      obtain ⟨D2, P2, n2, w2⟩ := R2
      have hsy' : D2.size + P2.size ≤ D1.size + P1.size := hsy
      obtain ⟨D', P', n', a, t, hE, hS, ha, hb⟩ := ih a2 t2 D2 P2 n2 A (by omega) (by omega) (by omega)
      refine ⟨D', P', n', a, t, ?_, by omega, by omega, by omega⟩
      refine Ev.step (f := fun k => (spec_l1Cur_logRecord.f l at_ s).bind fun bt432 => ((spec_AppendRecord.f k D P n bt432.1 bt432.2.1).bind fun bt436 => ((spec_l1Cur_one.f l bt432.2.2.1 bt432.2.2.2 4).bind fun bt440 => (if bt440.1 = true then ((spec_SyncLog.f k bt436.1 bt436.2.1 bt436.2.2.1).bind fun bt443 => (spec_l1Cur_log.l0 k (wrap64 (((d + 1 : Nat) : Int) - 1)) l bt440.2.1 bt440.2.2 bt443.1 bt443.2.1 bt443.2.2.1)) else (spec_l1Cur_log.l0 k (wrap64 (((d + 1 : Nat) : Int) - 1)) l bt440.2.1 bt440.2.2 bt436.1 bt436.2.1 bt436.2.2.1))))) (fun k => ?_) ?_
      · simp only [spec_l1Cur_log.l0]
        rw [if_pos (by omega)]
      · rw [ew]
        exact Ev.bindc e1 (Ev.bind ap (Ev.bindc e2 (Ev.pos rfl (Ev.bind sy hE))))
theorem log_ok (l : List Int) (hl : isCode l) (at_ s : Int) (h0 : 0 ≤ at_) (h1 : at_ ≤ 700000) :
    ∃ D P n a t, Ev (fun k => spec_l1Cur_log.f k l at_ s) (D, P, n, a, t) ∧ D.size + P.size ≤ 4000 ∧ at_ ≤ a ∧ a ≤ at_ + 200 := by
  obtain ⟨x, a, t, e, hx0, hx1, ha, hb⟩ := pick_ok l hl at_ s 7 h0 (by omega)
  obtain ⟨m, rfl⟩ : ∃ m : Nat, x = (m : Int) := ⟨x.toNat, by omega⟩
  have e0 : (⟨#[]⟩ : ByteArray).size = 0 := rfl
  obtain ⟨D', P', n', a', t', hE, hS, hp, hq⟩ := log_loop l hl m a t ⟨#[]⟩ ⟨#[]⟩ 0 0 (by omega) (by omega) (by rw [e0]; omega)
  rw [e0] at hS
  refine ⟨D', P', n', a', t', ?_, by omega, by omega, by omega⟩
  unfold spec_l1Cur_log.f
  exact Ev.bindc e hE
theorem subs_size (s : ByteArray) (i j : Nat) (h : i ≤ j) (hj : j ≤ s.size) : (subs s i j).size = j - i := by
  have := congrArg List.length (L_subs s i j)
  rw [L_len, List.length_take, List.length_drop, L_len] at this
  omega
theorem spoilt_ok (l : List Int) (hl : isCode l) (at_ s : Int) (t w : ByteArray) (ht : t.size ≤ 100000) (hw : w.size = 5) (h0 : 0 ≤ at_) (h1 : at_ ≤ 800000) :
    ∃ x a u, spec_l1Cur_spoilt.f l at_ s t w = some (x, a, u) ∧ x.size ≤ t.size + 1 ∧ at_ ≤ a ∧ a ≤ at_ + 6 := by
  unfold spec_l1Cur_spoilt.f
  by_cases hn : t.toList = ([] : List UInt8)
  · rw [if_pos hn, if_pos (by omega), if_pos (by omega)]
    exact ⟨_, _, _, rfl, by rw [subs_size _ _ _ (by omega) (by omega)]; omega, by omega, by omega⟩
  · rw [if_neg hn]
    have hp : 0 < t.size := by
      rcases Nat.eq_zero_or_pos t.size with h | h
      · refine absurd ?_ hn
        rw [toList_L]
        exact List.eq_nil_of_length_eq_zero (by rw [L_len]; exact h)
      · exact h
    obtain ⟨x1, a1, t1, e1, y1, z1, p1, q1⟩ := pick_ok l hl at_ s (t.size : Int) h0 (by omega)
    rw [e1]
    simp only [Option.bind_some]
    obtain ⟨x2, a2, t2, e2, y2, z2, p2, q2⟩ := pick_ok l hl a1 t1 (w.size : Int) (by omega) (by omega)
    rw [e2]
    simp only [Option.bind_some]
    have hw2 : (subs w x2.toNat w.size).size = w.size - x2.toNat := subs_size _ _ _ (by omega) (by omega)
    have hw3 : (subs (subs w x2.toNat w.size) 0 1).size = 1 := by rw [subs_size _ _ _ (by omega) (by omega)]
    rw [if_pos y2, if_pos (by omega), if_pos (by omega), if_pos (by omega)]
    obtain ⟨x3, a3, t3, e3, y3, z3, p3, q3⟩ := pick_ok l hl a2 t2 3 (by omega) (by omega)
    rw [e3]
    simp only [Option.bind_some]
    have hs1 : (subs t 0 x1.toNat).size = x1.toNat := by rw [subs_size _ _ _ (by omega) (by omega)]; omega
    have hs2 : (subs t x1.toNat t.size).size = t.size - x1.toNat := subs_size _ _ _ (by omega) (by omega)
    have ew : wrap64 (x1 + 1) = x1 + 1 := w64 (by omega) (by omega)
    have hs3 : (subs t (x1 + 1).toNat t.size).size = t.size - (x1 + 1).toNat := subs_size _ _ _ (by omega) (by omega)
    by_cases c0 : x3 = 0
    · rw [if_pos c0, if_pos y1, if_pos (by omega), if_pos (by rw [hs1, hw3]; omega), if_pos (by rw [cat_size, hs1, hw3, hs2]; omega)]
      exact ⟨_, _, _, rfl, by rw [cat_size, cat_size, hs1, hw3, hs2]; omega, Int.le_trans p1 (Int.le_trans p2 p3), by omega⟩
    · rw [if_neg c0]
      by_cases c1 : x3 = 1
      · rw [if_pos c1, if_pos y1, if_pos (by omega), if_pos (by rw [hs1, hw3]; omega), ew, if_pos (by omega), if_pos (by omega), if_pos (by rw [cat_size, hs1, hw3, hs3]; omega)]
        exact ⟨_, _, _, rfl, by rw [cat_size, cat_size, hs1, hw3, hs3]; omega, Int.le_trans p1 (Int.le_trans p2 p3), by omega⟩
      · rw [if_neg c1, if_pos y1, if_pos (by omega), ew, if_pos (by omega), if_pos (by omega), if_pos (by rw [hs1, hs3]; omega)]
        exact ⟨_, _, _, rfl, by rw [cat_size, hs1, hs3]; omega, Int.le_trans p1 (Int.le_trans p2 p3), by omega⟩
theorem anyLog_ok (l : List Int) (hl : isCode l) (at_ s : Int) (h0 : 0 ≤ at_) (h1 : at_ ≤ 600000) :
    ∃ D P n a t, Ev (fun k => spec_l1Cur_anyLog.f k l at_ s) (D, P, n, a, t) ∧ D.size + P.size ≤ 9000 ∧ at_ ≤ a ∧ a ≤ at_ + 300 := by
  obtain ⟨D, P, n, a, t, hE, hS, ha, hb⟩ := log_ok l hl at_ s h0 (by omega)
  obtain ⟨x, a1, t1, e, _, _, hp, hq⟩ := pick_ok l hl a t 24 (by omega) (by omega)
  unfold spec_l1Cur_anyLog.f
  by_cases c0 : x = 0
  · exact ⟨D, P, _, a1, t1, Ev.bind hE (Ev.bindc e (Ev.pos c0 (Ev.const rfl))), by omega, by omega, by omega⟩
  by_cases c1 : x = 1
  · obtain ⟨y, a2, t2, e2, hy, hp2, hq2⟩ := spoilt_ok l hl a1 t1 P ⟨#[35, 64, 10, 48, 49]⟩ (by omega) rfl (by omega) (by omega)
    exact ⟨D, y, n, a2, t2, Ev.bind hE (Ev.bindc e (Ev.neg c0 (Ev.pos c1 (Ev.bindc e2 (Ev.const rfl))))), by omega, by omega, by omega⟩
  by_cases c2 : x = 2
  · exact ⟨cat D P, P, n, a1, t1, Ev.bind hE (Ev.bindc e (Ev.neg c0 (Ev.neg c1 (Ev.pos c2 (Ev.pos (by show D.size + P.size ≤ _; omega) (Ev.const rfl)))))), by rw [cat_size]; omega, by omega, by omega⟩
  · exact ⟨D, P, n, a1, t1, Ev.bind hE (Ev.bindc e (Ev.neg c0 (Ev.neg c1 (Ev.neg c2 (Ev.const rfl))))), by omega, by omega, by omega⟩
end Go.Proofs.YtokmidpeeejahaaDoor.G

/- Recovery of a log, in plain Lean. -/
namespace Go.Proofs.YtokmidpeeejahaaDoor.G
open Go.RowKit Go.Proofs.YtokmidpeeejahaaDoorW.PrintWords Go.Proofs.YtokmidpeeejahaaDoorW.PrintLast Go.Proofs.YtokmidpeeejahaaDoor.LogM
set_option linter.unusedVariables false
set_option linter.unusedSimpArgs false

/-- What RecoverLog answers. -/
def recR (s : ByteArray) : ByteArray × ByteArray × Int × Int × Bool := if s.size ≤ 30000 then (subs s 0 (endOf (L s)), ⟨#[]⟩, ((all (L s)).length : Int), (endOf (L s) : Int), true) else (⟨#[]⟩, ⟨#[]⟩, 0, 0, false)
theorem ends_last (k p : Nat) (l : List Rec) (h : l ≠ []) : rd (ends k p l) ((l.length - 1 : Nat) : Int) = ((p + (text k l).length : Nat) : Int) := by
  induction l generalizing k p with
  | nil => exact absurd rfl h
  | cons e l ih =>
    cases l with
    | nil => simp [ends, rd, text]
    | cons e2 l =>
      have := ih (k + 1) (p + (line k e).length) (by simp)
      unfold rd at this ⊢
      rw [ends]
      have e1 : ((((e :: e2 :: l).length - 1 : Nat) : Int)).toNat = ((e2 :: l).length - 1) + 1 := by simp
      rw [e1, List.getD_cons_succ]
      rw [Int.toNat_natCast] at this
      rw [this]
      simp only [text, List.length_append]
      omega
theorem RecoverLogI_ev (s : ByteArray) : Ev (fun k => impl_RecoverLog.f k s) (recR s) := by
  unfold impl_RecoverLog.f
  by_cases h : s.size ≤ 30000
  · rw [show recR s = (subs s 0 (endOf (L s)), ⟨#[]⟩, ((all (L s)).length : Int), (endOf (L s) : Int), true) from if_pos h]
    have he := endOf_le (L s)
    rw [L_len] at he
    have hl := all_length (L s)
    refine Ev.neg (by omega) (Ev.bind (readLog_ev s (by omega)) ?_)
    by_cases h0 : all (L s) = []
    · have e0 : endOf (L s) = 0 := by unfold endOf; rw [h0]; rfl
      rw [h0, e0]
      exact Ev.neg (by simp [ends]) (Ev.pos (by omega) (Ev.pos (by omega) (Ev.const rfl)))
    · have hp : 0 < (all (L s)).length := List.length_pos_iff.2 h0
      have hr := ends_last 0 0 (all (L s)) h0
      rw [Nat.zero_add] at hr
      have e1 : ((ends 0 0 (all (L s))).length : Int) = ((all (L s)).length : Int) := by rw [ends_length]
      have e2 : wrap64 (((all (L s)).length : Int) - 1) = (((all (L s)).length - 1 : Nat) : Int) := by rw [w64 (by omega) (by omega)]; omega
      have hr' : rd (ends 0 0 (all (L s))) ((((all (L s)).length - 1 : Nat)) : Int) = (endOf (L s) : Int) := hr
      simp only [e1, e2, hr', List.length_map]
      refine Ev.pos (by omega) (Ev.pos (by omega) (Ev.pos (by omega) (Ev.pos (by omega) (Ev.pos (by omega) (Ev.const ?_)))))
      simp
  · rw [show recR s = (⟨#[]⟩, ⟨#[]⟩, 0, 0, false) from if_neg h]
    exact Ev.pos (by omega) (Ev.const rfl)
end Go.Proofs.YtokmidpeeejahaaDoor.G

/- The law of CrashLog, in plain Lean: the printed function of the law answers true. -/
namespace Go.Proofs.YtokmidpeeejahaaDoor.G
open Go.RowKit Go.Proofs.YtokmidpeeejahaaDoorW.PrintWords Go.Proofs.YtokmidpeeejahaaDoorW.PrintLast Go.Proofs.YtokmidpeeejahaaDoor.LogM
set_option linter.unusedVariables false
set_option linter.unusedSimpArgs false

end Go.Proofs.YtokmidpeeejahaaDoor.G

/- The law of LogRecords, in plain Lean: the printed function of the law answers true. -/
namespace Go.Proofs.YtokmidpeeejahaaDoor.G
open Go.RowKit Go.Proofs.YtokmidpeeejahaaDoorW.PrintWords Go.Proofs.YtokmidpeeejahaaDoorW.PrintLast Go.Proofs.YtokmidpeeejahaaDoor.LogM
set_option linter.unusedVariables false
set_option linter.unusedSimpArgs false

/-- What LogRecords answers. -/
def recsR (D P : ByteArray) (n : Int) : List S40 × Bool := if vlog (L D) (L P) n then ((all (L D ++ L P)).map toS, true) else ([], false)
theorem LogRecordsI_ev (D P : ByteArray) (n : Int) (hD : D.size ≤ 140737488351232) (hP : P.size ≤ 140737488351232) : Ev (fun k => impl_LogRecords.f k D P n) (recsR D P n) := by
  unfold impl_LogRecords.f
  obtain ⟨rs, hr, hv⟩ := Log_records_ev D P n hD hP
  refine Ev.bind hr ?_
  by_cases h : vlog (L D) (L P) n
  · rw [show recsR D P n = ((all (L D ++ L P)).map toS, true) from if_pos h, ← hv h]
    exact Ev.pos (decide_eq_true h) (Ev.const rfl)
  · rw [show recsR D P n = ([], false) from if_neg h]
    exact Ev.neg (by simpa using h) (Ev.const rfl)

/-! ### Equal, marked, held -/
theorem mark_loop : ∀ (m x : Nat) (s : ByteArray), x ≤ m → m ≤ 1000000 → s.size + m ≤ 2000000 → ∃ t, Ev (fun k => laws_markText.l0 k (x : Int) s) t := by
  intro m
  induction m with
  | zero =>
    intro x s hx hm hs
    refine ⟨cat ⟨#[109]⟩ s, Ev.last fun k => ?_⟩
    simp only [laws_markText.l0]
    rw [if_neg (by omega), if_pos (by omega)]
  | succ m ih =>
    intro x s hx hm hs
    by_cases h0 : x = 0
    · exact ih x s (by omega) (by omega) (by omega)
    · have e1 : (strOfNums ([(wrap64 (48 + (Int.tmod (x : Int) 10))) % 256] : List Int)).size = 1 := rfl
      have e2 : wrap64 (Int.tdiv (x : Int) 10) = ((x / 10 : Nat) : Int) := by
        rw [show Int.tdiv (x : Int) 10 = ((x / 10 : Nat) : Int) from by rw [Int.tdiv_eq_ediv_of_nonneg (by omega)]; omega]
        exact w64 (by omega) (by omega)
      obtain ⟨t, ht⟩ := ih (x / 10) (cat (strOfNums ([(wrap64 (48 + (Int.tmod (x : Int) 10))) % 256] : List Int)) s) (by omega) (by omega) (by rw [cat_size, e1]; omega)
      refine ⟨t, Ev.step (f := fun k => laws_markText.l0 k ((x / 10 : Nat) : Int) (cat (strOfNums ([(wrap64 (48 + (Int.tmod (x : Int) 10))) % 256] : List Int)) s)) (fun k => ?_) ht⟩
      simp only [laws_markText.l0]
      rw [if_pos (by omega)]
      simp only [Option.bind_some]
      rw [if_pos (by rw [e1]; omega), e2]
theorem mark_ex (n : Int) (h0 : 0 < n) (h1 : n ≤ 1000000) : ∃ t, Ev (fun k => laws_markText.f k n) t := by
  obtain ⟨m, rfl⟩ : ∃ m : Nat, n = (m : Int) := ⟨n.toNat, by omega⟩
  obtain ⟨t, ht⟩ := mark_loop m m ⟨#[]⟩ (by omega) (by omega) (by show 0 + m ≤ _; omega)
  refine ⟨t, ?_⟩
  unfold laws_markText.f
  exact Ev.neg (by omega) ht
/-- The mark's text. -/
noncomputable def mk (n : Int) : ByteArray := if h : 0 < n ∧ n ≤ 1000000 then Classical.choose (mark_ex n h.1 h.2) else ⟨#[]⟩
theorem rd_at {l : List S40} {i : Nat} (h : i < l.length) : rd_T40 l (i : Int) = l[i] := by
  unfold rd_T40
  rw [Int.toNat_natCast, List.getD_eq_getElem?_getD, List.getElem?_eq_getElem h]; rfl
end Go.Proofs.YtokmidpeeejahaaDoor.G

/- The law of recovery after a crash, in plain Lean: the printed function of the law answers true. -/
namespace Go.Proofs.YtokmidpeeejahaaDoor.G
open Go.RowKit Go.Proofs.YtokmidpeeejahaaDoorW.PrintWords Go.Proofs.YtokmidpeeejahaaDoorW.PrintLast Go.Proofs.YtokmidpeeejahaaDoor.LogM
set_option linter.unusedVariables false
set_option linter.unusedSimpArgs false

end Go.Proofs.YtokmidpeeejahaaDoor.G

/- The law of a log, in plain Lean: the printed function of the law answers true. -/
namespace Go.Proofs.YtokmidpeeejahaaDoor.G
open Go.RowKit Go.Proofs.YtokmidpeeejahaaDoorW.PrintWords Go.Proofs.YtokmidpeeejahaaDoorW.PrintLast Go.Proofs.YtokmidpeeejahaaDoor.LogM
set_option linter.unusedVariables false
set_option linter.unusedSimpArgs false

theorem text_len (k : Nat) (l : List Rec) (hl : ∀ e ∈ l, e.good) (hk : k + l.length ≤ 1000000) : (text k l).length ≤ 376 * l.length := by
  induction l generalizing k with
  | nil => simp [text]
  | cons e l ih =>
    simp only [List.length_cons] at hk
    have h1 := line_len (hl e (List.mem_cons_self ..)) (show k < 1000000 by omega)
    have h2 := ih (k + 1) (fun x hx => hl x (List.mem_cons_of_mem _ hx)) (by omega)
    simp only [text, List.length_append, List.length_cons]
    omega
/-- A log with one record more. -/
theorem all_snoc {D P : List UInt8} {n : Int} {e : Rec} (h : vlog D P n) (hn : n ≠ 60) (he : e.good) :
    all (D ++ (P ++ line n.toNat e)) = all (D ++ P) ++ [e] ∧ vlog D (P ++ line n.toNat e) (n + 1) := by
  have hl := all_length (D ++ P)
  have hc : ((all (D ++ P)).length : Int) = n := h.2.2.2
  have hw : text 0 (all (D ++ P)) = D ++ P := whole_text (by rw [h.2.1, List.length_append])
  have hg := all_good (D ++ P)
  have hn2 : n.toNat = (all (D ++ P)).length := by omega
  have ht : text 0 (all (D ++ P) ++ [e]) = D ++ (P ++ line n.toNat e) := by
    rw [text_append, hw]
    simp only [text, List.append_nil, Nat.zero_add, hn2, List.append_assoc]
  have hg2 : ∀ x ∈ all (D ++ P) ++ [e], x.good := by
    intro x hx
    rcases List.mem_append.1 hx with hx | hx
    · exact hg x hx
    · rw [List.mem_singleton.1 hx]; exact he
  have hlen : (all (D ++ P) ++ [e]).length ≤ 60 := by rw [List.length_append, List.length_singleton]; omega
  have ha := all_of_text _ hg2 hlen
  have hE := endOf_text _ hg2 hlen
  have hT := text_len 0 _ hg2 (by omega)
  rw [ht] at ha hE hT
  refine ⟨ha, ?_, ?_, h.2.2.1, ?_⟩
  · rw [List.length_append] at hT
    omega
  · rw [hE, List.length_append]
  · rw [ha, List.length_append, List.length_singleton]
    omega
theorem appR_size (D P : ByteArray) (n : Int) (c r : ByteArray) : (appR D P n c r).1.size + (appR D P n c r).2.1.size ≤ D.size + P.size + 500 := by
  unfold appR
  split
  · split
    · show D.size + P.size ≤ _; omega
    · rename_i hv _
      show D.size + (cat P (tx (line n.toNat ⟨L c, L r⟩))).size ≤ _
      have hc := vlog_count hv.1
      have := line_len hv.2 (show n.toNat < 1000000 by omega)
      rw [cat_size, tx_size]
      omega
  · show D.size + P.size ≤ _; omega
theorem DrawApp_last (l : List Int) (hl : isCode l) (at_ s : Int) (D P : ByteArray) (n : Int) (h0 : 0 ≤ at_) (h1 : at_ ≤ 800000) :
    ∃ C R, Ev (fun k => spec_DrawAppendRecord.j1 k l at_ s D P n) (D, P, n, C, R) ∧ C.size ≤ 20 ∧ R.size ≤ 20 := by
  obtain ⟨c, r, a1, t1, e1, sc, sr, p1, q1⟩ := logRecord_ok l hl at_ s h0 h1
  refine ⟨c, r, Ev.last fun k => ?_, sc, sr⟩
  simp only [spec_DrawAppendRecord.j1]
  rw [e1]
  rfl
theorem DrawApp_loop (l : List Int) (hl : isCode l) (at_ s : Int) (h0 : 0 ≤ at_) (h1 : at_ ≤ 800000) : ∀ (d : Nat) (D P : ByteArray) (n : Int), D.size + P.size + 500 * d ≤ 100000 →
    ∃ D' P' n' C R, Ev (fun k => spec_DrawAppendRecord.l0 k (d : Int) l at_ s D P n) (D', P', n', C, R) ∧ D'.size + P'.size ≤ 100000 ∧ C.size ≤ 20 ∧ R.size ≤ 20 := by
  intro d
  induction d with
  | zero =>
    intro D P n hs
    obtain ⟨C, R, hE, hC, hR⟩ := DrawApp_last l hl at_ s D P n h0 h1
    refine ⟨D, P, n, C, R, Ev.step (f := fun k => spec_DrawAppendRecord.j1 k l at_ s D P n) (fun k => ?_) hE, by omega, hC, hR⟩
    simp only [spec_DrawAppendRecord.l0]
    rw [if_neg (by omega)]
  | succ d ih =>
    intro D P n hs
    have e1 : (⟨#[120]⟩ : ByteArray).size = 1 := rfl
    have e0 : (⟨#[]⟩ : ByteArray).size = 0 := rfl
    have ap := AppendRecordS_ev D P n ⟨#[120]⟩ ⟨#[]⟩ (by omega) (by omega) (by rw [e1]; omega) (by rw [e0]; omega)
    have hap := appR_size D P n ⟨#[120]⟩ ⟨#[]⟩
    generalize appR D P n ⟨#[120]⟩ ⟨#[]⟩ = A at ap hap
    obtain ⟨D1, P1, n1, w1⟩ := A
    have hap' : D1.size + P1.size ≤ D.size + P.size + 500 := hap
    obtain ⟨D', P', n', C, R, hE, hS, hC, hR⟩ := ih D1 P1 n1 (by omega)
    have ew : wrap64 (((d + 1 : Nat) : Int) - 1) = (d : Int) := by rw [w64 (by omega) (by omega)]; omega
    refine ⟨D', P', n', C, R, ?_, hS, hC, hR⟩
    refine Ev.step (f := fun k => (spec_AppendRecord.f k D P n (⟨#[120]⟩ : ByteArray) (⟨#[]⟩ : ByteArray)).bind fun b => (spec_DrawAppendRecord.l0 k (wrap64 (((d + 1 : Nat) : Int) - 1)) l at_ s b.1 b.2.1 b.2.2.1)) (fun k => ?_) ?_
    · simp only [spec_DrawAppendRecord.l0]
      rw [if_pos (by omega)]
    · rw [ew]
      exact Ev.bind ap hE
theorem DrawAppendRecord_ok (l : List Int) (hl : isCode l) : ∃ D P n C R, Ev (fun k => spec_DrawAppendRecord.f k l) (D, P, n, C, R) ∧ D.size + P.size ≤ 100000 ∧ C.size ≤ 20 ∧ R.size ≤ 20 := by
  obtain ⟨D, P, n, a, t, hE, hS, ha, hb⟩ := anyLog_ok l hl 0 0 (by omega) (by omega)
  obtain ⟨b, a2, t2, e2, p2, q2⟩ := one_ok l hl a t 40 (by omega) (by omega)
  unfold spec_DrawAppendRecord.f
  cases b with
  | true =>
    obtain ⟨x, a3, t3, e3, x0, x1, p3, q3⟩ := pick_ok l hl a2 t2 2 (by omega) (by omega)
    have e0 : (⟨#[]⟩ : ByteArray).size = 0 := rfl
    obtain ⟨m, hm⟩ : ∃ m : Nat, wrap64 (59 + x) = (m : Int) := ⟨(59 + x).toNat, by rw [w64 (by omega) (by omega)]; omega⟩
    have hm2 : (m : Int) ≤ 60 := by rw [← hm, w64 (by omega) (by omega)]; omega
    obtain ⟨D', P', n', C, R, hE', hS', hC, hR⟩ := DrawApp_loop l hl a3 t3 (by omega) (by omega) m ⟨#[]⟩ ⟨#[]⟩ 0 (by rw [e0]; omega)
    refine ⟨D', P', n', C, R, Ev.bind hE (Ev.bindc e2 (Ev.pos rfl (Ev.bindc e3 ?_))), hS', hC, hR⟩
    show Ev (fun k => spec_DrawAppendRecord.l0 k (wrap64 (59 + x)) l a3 t3 ⟨#[]⟩ ⟨#[]⟩ 0) _
    rw [hm]
    exact hE'
  | false =>
    obtain ⟨C, R, hE', hC, hR⟩ := DrawApp_last l hl a2 t2 D P n (by omega) (by omega)
    exact ⟨D, P, n, C, R, Ev.bind hE (Ev.bindc e2 (Ev.neg (by simp) hE')), by omega, hC, hR⟩
theorem IsValidRecordS_ev (C R : ByteArray) (hC : small C) (hR : small R) : Ev (fun k => spec_IsValidRecord.f k C R) (decide (Rec.good ⟨L C, L R⟩)) := by
  unfold spec_IsValidRecord.f
  exact Ev.bind (l27Good_ev C R hC hR) (Ev.const rfl)
theorem Whole_loop (a : List S40) (C R D P : ByteArray) (n : Int) (x : Int) (M : ByteArray) (ha : a.length ≤ 60) (hD : D.size ≤ 140737488351232) (hP : P.size ≤ 140737488351232)
    (hv : vlog (L D) (L P) n) (hx : x = ((cat D P).size : Int)) (hM : M = cat D P) :
    ∀ d i : Nat, i + d = a.length → Ev (fun k => laws_FnLog.l0 k (a ++ [⟨C, R⟩]) a x true true (i : Int) C R D P n M ⟨#[]⟩ n (cat D P) ⟨#[]⟩ n) true := by
  have va := IsValidLogI_ev D P n hD hP
  rw [decide_eq_true hv] at va
  have j3 : Ev (fun k => laws_FnLog.j3 k true) true := Ev.last fun k => rfl
  subst hM
  have hsz : D.size + P.size ≤ 30000 := hv.1
  intro d
  induction d with
  | zero =>
    intro i hi
    have hlen : (a ++ [(⟨C, R⟩ : S40)]).length = a.length + 1 := by simp
    have hr : rd_T40 (a ++ [(⟨C, R⟩ : S40)]) (a.length : Int) = ⟨C, R⟩ := by
      rw [rd_at (by rw [hlen]; omega)]
      simp
    refine Ev.step (f := fun k => (impl_IsValidLog.f k D P n).bind fun t618 => (laws_FnLog.j3 k t618)) (fun k => ?_) (Ev.bind va j3)
    simp only [laws_FnLog.l0]
    rw [if_neg (by omega), if_pos (by omega), if_pos (by rw [hlen]; omega), hr, if_pos (by simp), if_pos trivial, if_pos (by omega), if_pos hx, if_pos trivial, if_pos (by simp)]
  | succ d ih =>
    intro i hi
    have h1 : i < a.length := by omega
    have h2 : i < (a ++ [(⟨C, R⟩ : S40)]).length := by rw [List.length_append]; omega
    refine Ev.step (f := fun k => laws_FnLog.l0 k (a ++ [⟨C, R⟩]) a x true true ((i + 1 : Nat) : Int) C R D P n (cat D P) ⟨#[]⟩ n (cat D P) ⟨#[]⟩ n) (fun k => ?_) (ih (i + 1) (by omega))
    simp only [laws_FnLog.l0]
    have h3 : rd_T40 (a ++ [(⟨C, R⟩ : S40)]) (i : Int) = rd_T40 a (i : Int) := by rw [rd_at h1, rd_at h2, List.getElem_append_left h1]
    rw [if_pos (by omega), if_pos (by omega), if_pos (by omega), h3, if_neg (by simp), w64 (by omega) (by omega)]
    rfl
theorem Whole_j0 (D P : ByteArray) (n : Int) (C R : ByteArray) (hS : D.size + P.size ≤ 100000) (hC : C.size ≤ 20) (hR : R.size ≤ 20) :
    Ev (fun k => laws_FnLog.j0 k (appR D P n C R).2.2.2 false D P n C R (appR D P n C R).1 (appR D P n C R).2.1 (appR D P n C R).2.2.1) true := by
  by_cases hv : (vlog (L D) (L P) n ∧ Rec.good ⟨L C, L R⟩) ∧ n ≠ 60
  · obtain ⟨⟨hv, hg⟩, hn⟩ := hv
    rw [show appR D P n C R = (D, cat P (tx (line n.toNat ⟨L C, L R⟩)), n + 1, 0) by unfold appR; rw [if_pos ⟨hv, hg⟩, if_neg hn]]
    show Ev (fun k => laws_FnLog.j0 k 0 false D P n C R D (cat P (tx (line n.toNat ⟨L C, L R⟩))) (n + 1)) true
    obtain ⟨c0, c1⟩ := vlog_count hv
    have hlen := line_len hg (show n.toNat < 1000000 by omega)
    obtain ⟨ha, hv2⟩ := all_snoc hv hn hg
    have eP : L (cat P (tx (line n.toNat ⟨L C, L R⟩))) = L P ++ line n.toNat ⟨L C, L R⟩ := by rw [L_cat, L_tx]
    have hPs : (cat P (tx (line n.toNat ⟨L C, L R⟩))).size ≤ 200000 := by rw [cat_size, tx_size]; omega
    rw [← eP] at ha hv2
    generalize cat P (tx (line n.toNat ⟨L C, L R⟩)) = P' at ha hv2 hPs
    have hal := all_length (L D ++ L P)
    have lr := LogRecordsI_ev D P' (n + 1) (by omega) (by omega)
    rw [show recsR D P' (n + 1) = ((all (L D ++ L P')).map toS, true) from if_pos hv2, ha, List.map_append] at lr
    have ls := LogRecordsI_ev D P n (by omega) (by omega)
    rw [show recsR D P n = ((all (L D ++ L P)).map toS, true) from if_pos hv] at ls
    have hsz : D.size + P'.size ≤ 30000 := hv2.1
    have rc := RecoverLogI_ev (cat D P')
    have hE : endOf (L (cat D P')) = (cat D P').size := by rw [L_cat, hv2.2.1, L_len, L_len, cat_size]
    have hM : subs (cat D P') 0 (endOf (L (cat D P'))) = cat D P' := by
      rw [hE, subs_from]
      exact tx_L _
    have hcnt : ((all (L (cat D P'))).length : Int) = n + 1 := by rw [L_cat]; exact hv2.2.2.2
    rw [show recR (cat D P') = (subs (cat D P') 0 (endOf (L (cat D P'))), ⟨#[]⟩, ((all (L (cat D P'))).length : Int), (endOf (L (cat D P')) : Int), true) from if_pos (by rw [cat_size]; omega), hM, hcnt] at rc
    have sy := SyncLogI_ev D P' (n + 1) (by omega) (by omega)
    rw [show syncR D P' (n + 1) = (cat D P', ⟨#[]⟩, n + 1, true) from if_pos hv2] at sy
    have hto : [(⟨L C, L R⟩ : Rec)].map toS = [⟨C, R⟩] := by simp [toS, tx_L]
    rw [hto] at lr
    have hcn : ((all (L D ++ L P)).length : Int) = n := hv.2.2.2
    have hb : ((n + 1) != (((all (L D ++ L P)).map toS ++ [(⟨C, R⟩ : S40)]).length : Int)) = false := by
      rw [List.length_append, List.length_map, List.length_singleton]
      simp only [bne_eq_false_iff_eq]
      omega
    have last := Whole_loop ((all (L D ++ L P)).map toS) C R D P' (n + 1) (endOf (L (cat D P')) : Int) (cat D P') (by rw [List.length_map]; exact hal) (by omega) (by omega) hv2 (by rw [hE]) rfl _ 0 (Nat.zero_add _)
    have hlm : ((all (L D ++ L P)).map toS).length = (all (L D ++ L P)).length := List.length_map ..
    generalize (all (L D ++ L P)).map toS = rs at lr ls hb last hlm
    refine Ev.step (f := fun k => (impl_LogRecords.f k D P' (n + 1)).bind fun bt596 => ((impl_LogRecords.f k D P n).bind fun bt600 => (if D.size + P'.size ≤ 9223372036854775807 then ((impl_RecoverLog.f k (cat D P')).bind fun bt604 => ((impl_SyncLog.f k D P' (n + 1)).bind fun bt610 => (if bt596.2 = true then (if (bt596.1.length : Int) = (wrap64 ((bt600.1.length : Int) + 1)) then (laws_FnLog.j1 k bt596.1 bt600.1 bt604.2.2.2.1 bt604.2.2.2.2 bt610.2.2.2 ((n + 1) != (bt596.1.length : Int)) C R D P' (n + 1) bt604.1 bt604.2.1 bt604.2.2.1 bt610.1 bt610.2.1 bt610.2.2.1) else (laws_FnLog.j1 k bt596.1 bt600.1 bt604.2.2.2.1 bt604.2.2.2.2 bt610.2.2.2 true C R D P' (n + 1) bt604.1 bt604.2.1 bt604.2.2.1 bt610.1 bt610.2.1 bt610.2.2.1)) else (laws_FnLog.j1 k bt596.1 bt600.1 bt604.2.2.2.1 bt604.2.2.2.2 bt610.2.2.2 true C R D P' (n + 1) bt604.1 bt604.2.1 bt604.2.2.1 bt610.1 bt610.2.1 bt610.2.2.1)))) else (none)))) (fun k => ?_) ?_
    · simp only [laws_FnLog.j0]
      rw [if_neg (by simp), if_pos trivial]
    · refine Ev.bind lr (Ev.bind ls (Ev.pos (by omega) (Ev.bind rc (Ev.bind sy (Ev.pos rfl (Ev.pos ?_ ?_))))))
      · show ((rs ++ [(⟨C, R⟩ : S40)]).length : Int) = wrap64 ((rs.length : Int) + 1)
        rw [w64 (by omega) (by omega), List.length_append, List.length_singleton]
        omega
      · show Ev (fun k => laws_FnLog.j1 k (rs ++ [⟨C, R⟩]) rs (endOf (L (cat D P')) : Int) true true ((n + 1) != ((rs ++ [(⟨C, R⟩ : S40)]).length : Int)) C R D P' (n + 1) (cat D P') ⟨#[]⟩ (n + 1) (cat D P') ⟨#[]⟩ (n + 1)) true
        rw [hb]
        refine Ev.step (f := fun k => laws_FnLog.l0 k (rs ++ [⟨C, R⟩]) rs (endOf (L (cat D P')) : Int) true true 0 C R D P' (n + 1) (cat D P') ⟨#[]⟩ (n + 1) (cat D P') ⟨#[]⟩ (n + 1)) (fun k => ?_) last
        simp only [laws_FnLog.j1]
        rw [if_neg (by simp)]
  · have hA : ∃ c : Int, c ≠ 0 ∧ appR D P n C R = (D, P, n, c) := by
      unfold appR
      by_cases h : vlog (L D) (L P) n ∧ Rec.good ⟨L C, L R⟩
      · rw [if_pos h, if_pos (Classical.not_not.1 fun q => hv ⟨h, q⟩)]
        exact ⟨2, by omega, rfl⟩
      · rw [if_neg h]
        exact ⟨1, by omega, rfl⟩
    obtain ⟨c, hc, hA⟩ := hA
    rw [hA]
    refine Ev.last fun k => ?_
    simp only [laws_FnLog.j0]
    rw [if_neg (by simp), if_neg hc]
    simp
theorem FnLog_pure (l : List Int) (hb : ∀ x ∈ l, 0 ≤ x ∧ x ≤ 255) : Ev (fun k => laws_FnLog.f k l) true := by
  unfold laws_FnLog.f laws_vBig.f
  refine Ev.bindc rfl ?_
  by_cases hbig : (l.length : Int) > 65536
  · exact Ev.pos (decide_eq_true hbig) (Ev.const rfl)
  have hl : isCode l := ⟨hb, by omega⟩
  obtain ⟨D, P, n, C, R, e1, hS, hC, hR⟩ := DrawAppendRecord_ok l hl
  have a1 := AppendRecordI_ev D P n C R (by omega) (by omega) (by omega) (by omega)
  have a2 := AppendRecordS_ev D P n C R (by omega) (by omega) (by omega) (by omega)
  have j := Whole_j0 D P n C R hS hC hR
  have v1 := IsValidLogI_ev D P n (by omega) (by omega)
  have v2 := IsValidLogS_ev D P n (by omega) (by omega)
  have r2 := IsValidRecordS_ev C R (by unfold small; omega) (by unfold small; omega)
  generalize appR D P n C R = A at a1 a2 j
  refine Ev.neg (by simpa using hbig) (Ev.bind e1 (Ev.bind a1 (Ev.bind a2 (Ev.neg (by simp) (Ev.pos rfl (Ev.bind v1 (Ev.bind v2 (Ev.neg (by simp) (Ev.bindc (IsValidRecord_eq C R) (Ev.bind r2 ?_))))))))))
  have hx : ((decide (Rec.good ⟨L C, L R⟩)) != (decide (Rec.good ⟨L C, L R⟩))) = false := by simp
  show Ev (fun k => laws_FnLog.j0 k A.2.2.2 ((decide (Rec.good ⟨L C, L R⟩)) != (decide (Rec.good ⟨L C, L R⟩))) D P n C R A.1 A.2.1 A.2.2.1) true
  rw [hx]
  exact j
end Go.Proofs.YtokmidpeeejahaaDoor.G

/- What the rows of this seat share: what the listed variables give the walks, a world for the witnesses, and a log as an argument. -/
namespace Go.Proofs.YtokmidpeeejahaaDoor.G
open Go.ChangeShapes Go.WideShapes Go.ChangeAt Go.RowKit Go.Joins
open Go.ChangeMaps (open_string shut_string)
set_option linter.unusedVariables false

theorem own : ownKnob Tryd.prog.godebug = none := by kernel_rfl
theorem laidOut : laidOutB Tryd.prog = true := by kernel_rfl
/-- The rows' list of variables. -/
abbrev laid3 : List (String × DataW Unit) := [("math/bits.deBruijn32tab", Rows.laid_math_bits_deBruijn32tab), ("math/bits.deBruijn64tab", Rows.laid_math_bits_deBruijn64tab), ("internal/strconv.uint64pow10", Rows.laid_internal_strconv_uint64pow10)]
set_option maxRecDepth 100000 in
theorem Gl_of {W : World} (hL : laidMetH Tryd.prog laid3 W) (hsh : W.ShapedOpen Tryd.prog) : Gl W := by
  refine ⟨cell_of_shapedOpen_int (zero := #[.int .i64 0]) (t := 3) hsh (of_decide_eq_true (by kernel_rfl)) (by kernel_rfl) rfl (by kernel_rfl) (by kernel_rfl) Tryd.underlying3, ?_⟩
  have h : laidMet Tryd.prog laid3 W := hL
  obtain ⟨ps, ⟨g0, t0, cs0, f0, p0, q0, _, _, _, _, ⟨g1, t1, cs1, f1, p1, q1, _, _, _, _, ⟨g2, t2, cs2, f2, p2, q2, hg, ht, hv, hd, _⟩, _⟩, _⟩, _⟩ := h
  obtain rfl := Option.some.inj (gPow.symm.trans hg)
  obtain rfl := Option.some.inj ((show (Tryd.prog.globals[1]?).map (·.type) = some 115 by kernel_rfl).symm.trans ht)
  have hd' : DataW.trod (fun _ => ()) Tryd.prog W 0 (fun _ => true) false f2 115 cs2.toList = some (Lib.tabData .u64 Lib.pow10Tab, p2) := hd
  have e := Lib.cells_of_tab Tryd.underlying115 Tryd.underlying68 (by kernel_rfl) (by kernel_rfl) hd'
  unfold Lib.TabIs
  rw [hv, ← e]

set_option maxRecDepth 100000 in
/-- A world for the witnesses: the settled one, with the listed tables laid. -/
noncomputable def laidWorld (os : Os) : World :=
  { World.holding Tryd.prog os ⟨#[], #[], []⟩ with heap := (((World.holding Tryd.prog os ⟨#[], #[], []⟩).heap.modify 2 (lays (cells (H := Unit) Rows.laid_math_bits_deBruijn32tab))).modify 3 (lays (cells (H := Unit) Rows.laid_math_bits_deBruijn64tab))).modify 1 (lays (cells (H := Unit) Rows.laid_internal_strconv_uint64pow10)) }
where
  lays (cs : Array Value) : Obj → Obj
    | .cells _ t frozen => .cells cs t frozen
    | o => o
  cells {H : Type} : DataW H → Array Value
    | .agg l => (l.filterMap fun | .lit (.int k n) => some (Value.int k n) | _ => none).toArray
    | _ => #[]

section
variable {H : Type} {enc : TypeId × Value → H} {W : World}
/-- Bytes as an argument. -/
theorem open_bytes {a : Option Addr} {len cap : Nat} {d : DataW H} {p : List MemPlace} (h : DataW.Trod enc Tryd.prog W 0 (fun _ => true) true 48 (.slice a len cap) d p) :
    ∃ zs : List Int, (a = none ∧ len = 0 ∧ cap = 0 ∧ zs = []) ∨ ∃ x, a = some x ∧ len ≤ cap ∧ cap ≤ maxLen ∧ zs.length = cap ∧ (∀ i, i < zs.length → W.cell? (x.add i) = some (.int .u8 (zs.getD i 0))) ∧ ∀ n ∈ zs, (Lit.int .u8 n).wf = true := by
  obtain ⟨fuel, hf⟩ := h
  rcases open_ints Tryd.underlying48 Tryd.underlying5 (by kernel_rfl) hf with ⟨hcs, _⟩ | ⟨x, l, c, zs, hcs, _, hl, hm, hz, _, hcell, hwz⟩
  · simp [Value.cells] at hcs
    obtain ⟨rfl, rfl, rfl⟩ := hcs
    exact ⟨[], .inl ⟨rfl, rfl, rfl, rfl⟩⟩
  · simp [Value.cells] at hcs
    obtain ⟨rfl, rfl, rfl⟩ := hcs
    exact ⟨zs, .inr ⟨_, rfl, hl, hm, by simpa using hz, hcell, hwz⟩⟩
end
end Go.Proofs.YtokmidpeeejahaaDoor.G
