/- Texts of this seat, joined: what the claim's last text rests on. Some began as words of the kit's print; what is not needed is left out. -/
import Derived.Lib.IndexMore
import Derived.Lib.ItoaNum
import Derived.Test.YtneaeaoemhghdaaDoorBm3
import Derived.Test.YtneaeaoemhghdaaDoorBm4
import Derived.Test.YtneaeaoemhghdaaDoorBm5
import Derived.Test.YtneaeaoemhghdaaDoorCards
import Derived.Test.YtneaeaoemhghdaaDoorTie
import Derived.WalkKit
import Derived.ProofKit
import Derived.OpenShut
import Derived.Deep.DeepHandedRow
import Derived.Lib.LaidTab
import Derived.Lib.SmallJoins
import Derived.Carry
import Derived.ShutString
import Derived.ChangeOld
import Derived.Shelf.Vars
/- The plain mathematics of the workshop: which carpets and shops are valid. -/
namespace Go.Proofs.YtneaeaoemhghdaaDoor.ShopM

structure Cp where
  rows : Int
  made : Int
  state : Int
  loom : Int
  since : Int
deriving DecidableEq

/-- A carpet is valid in a shop with day D and L looms. -/
def vC (D L : Int) (c : Cp) : Prop :=
  (1 ≤ c.rows ∧ c.rows ≤ 500) ∧ (0 ≤ c.made ∧ c.made ≤ c.rows) ∧ (0 ≤ c.state ∧ c.state ≤ 4) ∧ (0 ≤ c.since ∧ c.since ≤ D) ∧
    (if c.state = 0 then c.made = 0 ∧ c.loom = 0 else if c.state = 1 then 1 ≤ c.loom ∧ c.loom ≤ L else c.made = c.rows ∧ c.loom = 0)
instance (D L : Int) (c : Cp) : Decidable (vC D L c) := by unfold vC; infer_instance
theorem vC_loom {D L : Int} {c : Cp} (h : vC D L c) : 0 < c.loom ↔ c.state = 1 := by
  obtain ⟨_, _, _, _, h⟩ := h
  split at h
  · omega
  · split at h <;> omega
/-- The first carpets of a list are valid, no two of them on one loom. -/
def okTo (D L : Int) (l : List Cp) (n : Nat) : Prop := ∀ j (h : j < l.length), j < n → vC D L l[j] ∧ ∀ k (hk : k < j), 0 < l[j].loom → (l[k]'(by omega)).loom ≠ l[j].loom
theorem okTo_zero (D L : Int) (l : List Cp) : okTo D L l 0 := fun j h hj => by omega
theorem okTo_succ {D L : Int} {l : List Cp} {n : Nat} (hn : n < l.length) : okTo D L l (n + 1) ↔ okTo D L l n ∧ vC D L l[n] ∧ ∀ k (hk : k < n), 0 < l[n].loom → (l[k]'(by omega)).loom ≠ l[n].loom := by
  constructor
  · intro h
    exact ⟨fun j hj hjn => h j hj (by omega), h n hn (by omega)⟩
  · rintro ⟨h1, h2⟩ j hj hjn
    by_cases e : j = n
    · subst e; exact h2
    · exact h1 j hj (by omega)
theorem okTo_mono {D L : Int} {l : List Cp} {n m : Nat} (h : okTo D L l n) (hm : m ≤ n) : okTo D L l m := fun j hj hjm => h j hj (by omega)
def vShop (D L : Int) (l : List Cp) (M : Int) : Prop := (0 ≤ D ∧ D ≤ 4000) ∧ (1 ≤ L ∧ L ≤ 4) ∧ l.length ≤ 8 ∧ (0 ≤ M ∧ M ≤ 1000000) ∧ okTo D L l l.length
/-- The carpet on a loom: its place, or -1. -/
def onLoom (l : List Cp) (loom : Int) : Int := match l.findIdx? (fun c => c.state == 1 && c.loom == loom) with
  | some i => (i : Int)
  | none => -1
/-- In a list whose first carpets are valid, the carpet at n is the first on its loom just if no earlier one stands there. -/
theorem onLoom_first {D L : Int} {l : List Cp} {n : Nat} (hn : n < l.length) (h : okTo D L l n) (hv : vC D L l[n]) (hs : l[n].state = 1) :
    onLoom l l[n].loom = (n : Int) ↔ ∀ k (hk : k < n), 0 < l[n].loom → (l[k]'(by omega)).loom ≠ l[n].loom := by
  have hpos : 0 < l[n].loom := (vC_loom hv).2 hs
  have hp : (fun c : Cp => c.state == 1 && c.loom == l[n].loom) l[n] = true := by simp [hs]
  cases hf : l.findIdx? (fun c => c.state == 1 && c.loom == l[n].loom) with
  | none =>
    exfalso
    have := List.findIdx?_eq_none_iff.1 hf l[n] (List.getElem_mem hn)
    simp [hs] at this
  | some i =>
    have hi := List.findIdx?_eq_some_iff_getElem.1 hf
    obtain ⟨hil, h1, h2⟩ := hi
    unfold onLoom
    rw [hf]
    constructor
    · intro e k hk _ heq
      have e' : i = n := by have : (i : Int) = (n : Int) := e; omega
      subst e'
      have := h2 k hk
      have hvk := (h k (by omega) hk).1
      have hk1 : (l[k]'(by omega)).state = 1 := (vC_loom hvk).1 (by rw [heq]; exact hpos)
      simp [hk1, heq] at this
    · intro hall
      show (i : Int) = (n : Int)
      have hle : i ≤ n := by
        apply Nat.le_of_not_lt
        intro hlt
        have := h2 n hlt
        simp [hs] at this
      by_cases e : i = n
      · omega
      · exfalso
        simp only [Bool.and_eq_true, beq_iff_eq] at h1
        exact hall i (by omega) hpos h1.2
end Go.Proofs.YtneaeaoemhghdaaDoor.ShopM

/- The plain mathematics of the log: lines, their reading, and the log's records, over lists of bytes. -/
namespace Go.Proofs.YtneaeaoemhghdaaDoor.LogM
open Go.Lib

/-! ### Cutting at one byte -/
def upto (b : UInt8) : List UInt8 → List UInt8
  | [] => []
  | a :: l => if a = b then [] else a :: upto b l
def past (b : UInt8) : List UInt8 → List UInt8
  | [] => []
  | a :: l => if a = b then l else past b l

theorem upto_nin (b : UInt8) (s : List UInt8) : b ∉ upto b s := by
  induction s with
  | nil => simp [upto]
  | cons a l ih =>
    by_cases e : a = b
    · simp [upto, e]
    · have e' : ¬ b = a := fun h => e h.symm
      simp [upto, e, e', ih]
theorem upto_app {b : UInt8} {x y : List UInt8} (h : b ∉ x) : upto b (x ++ b :: y) = x := by
  induction x with
  | nil => simp [upto]
  | cons a l ih =>
    have e : ¬ a = b := fun e => h (by simp [e])
    simp only [List.cons_append, upto, e, if_false]
    rw [ih (fun q => h (List.mem_cons_of_mem _ q))]
theorem past_app {b : UInt8} {x y : List UInt8} (h : b ∉ x) : past b (x ++ b :: y) = y := by
  induction x with
  | nil => simp [past]
  | cons a l ih =>
    have e : ¬ a = b := fun e => h (by simp [e])
    simp only [List.cons_append, past, e, if_false]
    exact ih (fun q => h (List.mem_cons_of_mem _ q))
theorem upto_none {b : UInt8} {x : List UInt8} (h : b ∉ x) : upto b x = x := by
  induction x with
  | nil => simp [upto]
  | cons a l ih =>
    have e : ¬ a = b := fun e => h (by simp [e])
    simp only [upto, e, if_false]
    rw [ih (fun q => h (List.mem_cons_of_mem _ q))]
theorem past_none {b : UInt8} {x : List UInt8} (h : b ∉ x) : past b x = [] := by
  induction x with
  | nil => simp [past]
  | cons a l ih =>
    have e : ¬ a = b := fun e => h (by simp [e])
    simp only [past, e, if_false]
    exact ih (fun q => h (List.mem_cons_of_mem _ q))
theorem upto_cons_ne {a b : UInt8} {l : List UInt8} (h : a ≠ b) : upto b (a :: l) = a :: upto b l := by simp [upto, h]
theorem upto_cons_eq {b : UInt8} {l : List UInt8} : upto b (b :: l) = [] := by simp [upto]
theorem upto_past {b : UInt8} {s : List UInt8} (h : b ∈ s) : s = upto b s ++ b :: past b s := by
  induction s with
  | nil => cases h
  | cons a l ih =>
    by_cases e : a = b
    · subst e; simp [upto, past]
    · have hl : b ∈ l := by
        rcases List.mem_cons.1 h with h | h
        · exact absurd h.symm e
        · exact h
      have := ih hl
      simp only [upto, past, e, if_false, List.cons_append]
      exact congrArg _ this

/-- 'index' of one byte. -/
theorem index_one (b : UInt8) : ∀ s : List UInt8, index s [b] = if b ∈ s then ((upto b s).length : Int) else -1
  | [] => by simp [index]
  | a :: l => by
    by_cases e : a = b
    · subst e; simp [index, upto_cons_eq]
    · have ih := index_one b l
      have e' : ¬ b = a := fun h => e h.symm
      simp only [index, List.isPrefixOf, List.mem_cons, e', false_or, upto_cons_ne e]
      have : (b == a) = false := by simpa using e'
      simp only [this, Bool.false_and]
      rw [ih]
      by_cases hb : b ∈ l
      · simp [hb]
      · simp [hb]
theorem contains_one (b : UInt8) (s : List UInt8) : contains s [b] = decide (b ∈ s) := by
  unfold contains
  rw [index_one]
  by_cases h : b ∈ s <;> simp [h]
theorem cut_one_in {b : UInt8} {s : List UInt8} (h : b ∈ s) : cut s [b] = (upto b s, past b s, true) := by
  unfold cut
  rw [index_one, if_pos h, if_pos (by omega)]
  have e := upto_past h
  have e1 : (s.take (upto b s).length) = upto b s := by
    have : ∀ n, s.take n = (upto b s ++ b :: past b s).take n := fun n => by rw [← e]
    rw [this, List.take_left]
  have e2 : (s.drop ((upto b s).length + 1)) = past b s := by
    have : ∀ n, s.drop n = (upto b s ++ b :: past b s).drop n := fun n => by rw [← e]
    rw [this, ← List.drop_drop, List.drop_left]
    rfl
  simp only [Int.toNat_natCast, List.length_singleton, e1, e2]
theorem cut_one_out {b : UInt8} {s : List UInt8} (h : b ∉ s) : cut s [b] = (s, [], false) := by
  unfold cut
  rw [index_one, if_neg h, if_neg (by omega)]
/-- strings.Cut at one byte, the flag aside. -/
theorem cut_one (b : UInt8) (s : List UInt8) : (cut s [b]).1 = upto b s ∧ (cut s [b]).2.1 = past b s := by
  by_cases h : b ∈ s
  · rw [cut_one_in h]; exact ⟨rfl, rfl⟩
  · rw [cut_one_out h, upto_none h, past_none h]; exact ⟨rfl, rfl⟩

/-! ### The sealed line -/
def sumOf (s : List UInt8) : Nat := s.foldl (fun h c => (41 * h + c.toNat + 1) % 999979) 7
theorem sumOf_snoc (s : List UInt8) (c : UInt8) : sumOf (s ++ [c]) = (41 * sumOf s + c.toNat + 1) % 999979 := by simp [sumOf]
theorem sumOf_lt (s : List UInt8) : sumOf s < 999979 := by
  rcases List.eq_nil_or_concat s with rfl | ⟨l, c, rfl⟩
  · decide
  · rw [List.concat_eq_append, sumOf_snoc]; exact Nat.mod_lt _ (by decide)
def num (k : Nat) : List UInt8 := decDigits k
theorem itoa_num (k : Nat) : itoa (k : Int) = num k := by
  unfold itoa num
  rw [if_neg (by omega)]
  simp
theorem num_digit (k : Nat) : ∀ b ∈ num k, 48 ≤ b ∧ b ≤ 57 := by
  unfold num
  induction k using Nat.strongRecOn with
  | _ u ih =>
    intro b hb
    have key : ∀ n, n < 10 → (48 : UInt8) ≤ UInt8.ofNat (48 + n) ∧ UInt8.ofNat (48 + n) ≤ 57 := by decide
    by_cases h : u < 10
    · rw [decDigits, dif_pos h] at hb
      rw [List.mem_singleton.1 hb]
      exact key u h
    · rw [decDigits, dif_neg h] at hb
      rcases List.mem_append.1 hb with hb | hb
      · exact ih (u / 10) (by omega) b hb
      · rw [List.mem_singleton.1 hb]
        exact key _ (Nat.mod_lt _ (by decide))
theorem num_len_small {k : Nat} (h : k < 1000000) : (num k).length ≤ 6 := by
  unfold num
  rw [decDigits_length]
  have h1 : ∀ u, u < 10 → nDigits u = 1 := fun u h => nDigits_small h
  by_cases a : k < 10
  · rw [h1 _ a]; omega
  rw [nDigits_big a]
  by_cases a : k / 10 < 10
  · rw [h1 _ a]; omega
  rw [nDigits_big a]
  by_cases a : k / 10 / 10 < 10
  · rw [h1 _ a]; omega
  rw [nDigits_big a]
  by_cases a : k / 10 / 10 / 10 < 10
  · rw [h1 _ a]; omega
  rw [nDigits_big a]
  by_cases a : k / 10 / 10 / 10 / 10 < 10
  · rw [h1 _ a]; omega
  rw [nDigits_big a, h1 _ (by omega)]; omega
theorem num_nin {b : UInt8} (h : b < 48 ∨ 57 < b) (k : Nat) : b ∉ num k := by
  intro hb
  obtain ⟨h1, h2⟩ := num_digit k b hb
  simp only [UInt8.le_iff_toNat_le, UInt8.lt_iff_toNat_lt] at *
  omega
def sealed (s : List UInt8) : List UInt8 := s ++ 35 :: num (sumOf s)
def plain (b : UInt8) : Prop := 32 ≤ b ∧ b ≤ 126 ∧ b ≠ 35
instance (b : UInt8) : Decidable (plain b) := inferInstanceAs (Decidable (_ ∧ _ ∧ _))

structure Rec where
  c : List UInt8
  r : List UInt8
deriving DecidableEq
def Rec.good (e : Rec) : Prop := 1 ≤ e.c.length ∧ e.c.length ≤ 160 ∧ (∀ b ∈ e.c, plain b) ∧ 64 ∉ e.c ∧ e.r.length ≤ 200 ∧ ∀ b ∈ e.r, plain b
instance (e : Rec) : Decidable e.good := inferInstanceAs (Decidable (_ ∧ _ ∧ _ ∧ _ ∧ _ ∧ _))
def body (k : Nat) (e : Rec) : List UInt8 := num k ++ 32 :: (e.c ++ 64 :: e.r)
def line (k : Nat) (e : Rec) : List UInt8 := sealed (body k e) ++ [10]

theorem body_plain {k : Nat} {e : Rec} (h : e.good) : ∀ b ∈ body k e, 32 ≤ b ∧ b ≤ 126 ∧ b ≠ 35 := by
  intro b hb
  have hd : ∀ b ∈ num k, 32 ≤ b ∧ b ≤ 126 ∧ b ≠ 35 := by
    intro b hb
    obtain ⟨h1, h2⟩ := num_digit k b hb
    refine ⟨?_, ?_, ?_⟩
    · simp only [UInt8.le_iff_toNat_le] at *; have : (48 : UInt8).toNat = 48 := rfl; have : (32 : UInt8).toNat = 32 := rfl; omega
    · simp only [UInt8.le_iff_toNat_le] at *; have : (57 : UInt8).toNat = 57 := rfl; have : (126 : UInt8).toNat = 126 := rfl; omega
    · rintro rfl; simp only [UInt8.le_iff_toNat_le] at h1; have : (48 : UInt8).toNat = 48 := rfl; have : (35 : UInt8).toNat = 35 := rfl; omega
  rcases List.mem_append.1 hb with hb | hb
  · exact hd b hb
  rcases List.mem_cons.1 hb with rfl | hb
  · decide
  rcases List.mem_append.1 hb with hb | hb
  · exact h.2.2.1 b hb
  rcases List.mem_cons.1 hb with rfl | hb
  · decide
  · exact h.2.2.2.2.2 b hb
theorem body_nin35 {k : Nat} {e : Rec} (h : e.good) : 35 ∉ body k e := fun hb => (body_plain h _ hb).2.2 rfl
theorem body_nin10 {k : Nat} {e : Rec} (h : e.good) : 10 ∉ body k e := fun hb => absurd (body_plain h _ hb).1 (by decide)
theorem body_len {k : Nat} {e : Rec} (h : e.good) (hk : k < 1000000) : (body k e).length ≤ 368 := by
  have := num_len_small hk
  have h1 := h.2.1
  have h2 := h.2.2.2.2.1
  simp only [body, List.length_append, List.length_cons]
  omega
theorem seal_nin10 {s : List UInt8} (h : 10 ∉ s) : 10 ∉ sealed s := by
  intro hb
  rcases List.mem_append.1 hb with hb | hb
  · exact h hb
  rcases List.mem_cons.1 hb with hb | hb
  · exact absurd hb (by decide)
  · exact num_nin (.inl (by decide)) _ hb
theorem seal_len (s : List UInt8) : (sealed s).length ≤ s.length + 7 := by
  have := num_len_small (show sumOf s < 1000000 by have := sumOf_lt s; omega)
  simp only [sealed, List.length_append, List.length_cons]
  omega
theorem line_pos (k : Nat) (e : Rec) : 0 < (line k e).length := by simp [line]
theorem line_upto {k : Nat} {e : Rec} (h : e.good) (t : List UInt8) : upto 10 (line k e ++ t) = sealed (body k e) := by
  have : line k e ++ t = sealed (body k e) ++ 10 :: t := by simp [line]
  rw [this, upto_app (seal_nin10 (body_nin10 h))]
theorem seal_upto {s : List UInt8} (h : 35 ∉ s) : upto 35 (sealed s) = s := upto_app h
theorem body_past {k : Nat} {e : Rec} : past 32 (body k e) = e.c ++ 64 :: e.r := past_app (num_nin (.inl (by decide)) k)
theorem body_drop {k : Nat} {e : Rec} : (body k e).drop ((num k).length + 1) = e.c ++ 64 :: e.r := by simp [body]
theorem good_upto {e : Rec} (h : e.good) : upto 64 (e.c ++ 64 :: e.r) = e.c := upto_app h.2.2.2.1
theorem good_past {e : Rec} (h : e.good) : past 64 (e.c ++ 64 :: e.r) = e.r := past_app h.2.2.2.1

/-- The record that a text would begin with. -/
def peek (s : List UInt8) : Rec := ⟨upto 64 (past 32 (upto 35 (upto 10 s))), past 64 (past 32 (upto 35 (upto 10 s)))⟩
theorem peek_of {k : Nat} {e : Rec} (h : e.good) {s : List UInt8} (hp : line k e <+: s) : peek s = e := by
  obtain ⟨t, rfl⟩ := hp
  unfold peek
  rw [line_upto h, seal_upto (body_nin35 h), body_past, good_upto h, good_past h]
/-- The record number k in front of a text, if there is one. -/
def first (k : Nat) (s : List UInt8) : Option Rec := if (peek s).good ∧ line k (peek s) <+: s then some (peek s) else none
theorem first_some {k : Nat} {s : List UInt8} {e : Rec} : first k s = some e ↔ e.good ∧ line k e <+: s := by
  unfold first
  constructor
  · intro h
    split at h
    · injection h with h; subst h; assumption
    · cases h
  · rintro ⟨h1, h2⟩
    have := peek_of h1 h2
    rw [if_pos (by rw [this]; exact ⟨h1, h2⟩), this]
theorem first_none {k : Nat} {s : List UInt8} : first k s = none ↔ ∀ e : Rec, e.good → ¬ line k e <+: s := by
  constructor
  · intro h e h1 h2
    rw [first_some.2 ⟨h1, h2⟩] at h
    cases h
  · intro h
    cases hf : first k s with
    | none => rfl
    | some e => exact absurd (first_some.1 hf).2 (h e (first_some.1 hf).1)
/-! ### All records -/
/-- The records in front of a text, from number k on, n at most. -/
def recs : Nat → Nat → List UInt8 → List Rec
  | 0, _, _ => []
  | n + 1, k, s => match first k s with
    | none => []
    | some e => e :: recs n (k + 1) (s.drop (line k e).length)
/-- The text of records. -/
def text : Nat → List Rec → List UInt8
  | _, [] => []
  | k, e :: l => line k e ++ text (k + 1) l
theorem text_append (k : Nat) (l m : List Rec) : text k (l ++ m) = text k l ++ text (k + l.length) m := by
  induction l generalizing k with
  | nil => simp [text]
  | cons e l ih => simp only [List.cons_append, text, ih, List.append_assoc, List.length_cons]; rw [show k + 1 + l.length = k + (l.length + 1) by omega]
theorem recs_good (n k : Nat) (s : List UInt8) : ∀ e ∈ recs n k s, e.good := by
  induction n generalizing k s with
  | zero => intro e h; cases h
  | succ n ih =>
    intro e h
    unfold recs at h
    split at h
    · cases h
    · rename_i x hx
      rcases List.mem_cons.1 h with rfl | h
      · exact (first_some.1 hx).1
      · exact ih _ _ e h
theorem recs_length (n k : Nat) (s : List UInt8) : (recs n k s).length ≤ n := by
  induction n generalizing k s with
  | zero => simp [recs]
  | succ n ih =>
    unfold recs
    split
    · simp
    · simp only [List.length_cons]; exact Nat.succ_le_succ (ih _ _)
theorem recs_prefix (n k : Nat) (s : List UInt8) : text k (recs n k s) <+: s := by
  induction n generalizing k s with
  | zero => simp [recs, text]
  | succ n ih =>
    unfold recs
    split
    · simp [text]
    · rename_i e he
      obtain ⟨t, ht⟩ := (first_some.1 he).2
      have := ih (k + 1) (s.drop (line k e).length)
      rw [← ht]
      simp only [text, List.drop_left]
      rw [← ht, List.drop_left] at this
      exact List.prefix_append_right_inj _ |>.2 this
/-- What good records in front of a text are its first records. -/
theorem recs_of (l : List Rec) (hl : ∀ e ∈ l, e.good) (n k : Nat) (t : List UInt8) (hn : l.length ≤ n) : recs n k (text k l ++ t) = l ++ recs (n - l.length) (k + l.length) t := by
  induction l generalizing n k with
  | nil => simp [text]
  | cons e l ih =>
    cases n with
    | zero => simp at hn
    | succ n =>
      have he : first k (text k (e :: l) ++ t) = some e := first_some.2 ⟨hl e (List.mem_cons_self ..), by simp only [text, List.append_assoc]; exact List.prefix_append _ _⟩
      rw [recs, he]
      simp only [text, List.append_assoc, List.drop_left, List.cons_append, List.length_cons]
      rw [ih (fun x hx => hl x (List.mem_cons_of_mem _ hx)) n (k + 1) (by simpa using hn)]
      rw [show n + 1 - (l.length + 1) = n - l.length by omega, show k + 1 + l.length = k + (l.length + 1) by omega]
theorem recs_text (l : List Rec) (hl : ∀ e ∈ l, e.good) (n k : Nat) (hn : l.length ≤ n) : recs n k (text k l) = l := by
  have := recs_of l hl n k [] hn
  rw [List.append_nil] at this
  rw [this]
  have h0 : ∀ m j, recs m j [] = [] := by
    intro m j
    cases m with
    | zero => rfl
    | succ m =>
      unfold recs
      have : first j [] = none := first_none.2 fun e _ h => by have h1 := h.length_le; have h2 := line_pos j e; rw [List.length_nil] at h1; omega
      rw [this]
  rw [h0, List.append_nil]
/-- All records of a text (60 at most), and where they end. -/
def all (s : List UInt8) : List Rec := recs 60 0 s
def endOf (s : List UInt8) : Nat := (text 0 (all s)).length
theorem all_length (s : List UInt8) : (all s).length ≤ 60 := recs_length _ _ _
theorem all_good (s : List UInt8) : ∀ e ∈ all s, e.good := recs_good _ _ _
theorem all_text (s : List UInt8) : text 0 (all s) = s.take (endOf s) := by
  obtain ⟨t, ht⟩ := recs_prefix 60 0 s
  have : ∀ n, s.take n = (text 0 (all s) ++ t).take n := fun n => by
    show _ = (text 0 (recs 60 0 s) ++ t).take n
    rw [ht]
  rw [this, endOf, List.take_left]
theorem whole_text {s : List UInt8} (h : endOf s = s.length) : text 0 (all s) = s := by rw [all_text, h, List.take_length]
theorem all_of_text (l : List Rec) (hl : ∀ e ∈ l, e.good) (hn : l.length ≤ 60) : all (text 0 l) = l := recs_text l hl 60 0 hn
theorem endOf_text (l : List Rec) (hl : ∀ e ∈ l, e.good) (hn : l.length ≤ 60) : endOf (text 0 l) = (text 0 l).length := by unfold endOf; rw [all_of_text l hl hn]
end Go.Proofs.YtneaeaoemhghdaaDoor.LogM

/- What the printed functions of the log come to: the reference's side. -/
namespace Go.Proofs.YtneaeaoemhghdaaDoor.G
open Go.RowKit Go.Proofs.YtneaeaoemhghdaaDoorW.PrintWords Go.Proofs.YtneaeaoemhghdaaDoorW.PrintLast Go.Proofs.YtneaeaoemhghdaaDoor.LogM
set_option linter.unusedVariables false
set_option linter.unusedSimpArgs false

/-! ### Texts and lists of bytes -/
abbrev L (s : ByteArray) : List UInt8 := s.data.toList
def tx (l : List UInt8) : ByteArray := ⟨l.toArray⟩
theorem L_tx (l : List UInt8) : L (tx l) = l := by simp [L, tx]
theorem tx_L (s : ByteArray) : tx (L s) = s := by
  apply ByteArray.ext
  simp [L, tx]
theorem L_one (b : UInt8) : L ⟨#[b]⟩ = [b] := rfl
theorem L_inj {a b : ByteArray} (h : L a = L b) : a = b := by rw [← tx_L a, h, tx_L]
theorem L_len (s : ByteArray) : (L s).length = s.size := rfl
theorem tx_size (l : List UInt8) : (tx l).size = l.length := by simp [tx, ByteArray.size]
theorem L_cat (a b : ByteArray) : L (cat a b) = L a ++ L b := by
  unfold cat L
  rw [ByteArray.data_append]
  simp
theorem cat_size (a b : ByteArray) : (cat a b).size = a.size + b.size := by unfold cat; exact ByteArray.size_append
theorem L_subs (s : ByteArray) (i j : Nat) : L (subs s i j) = ((L s).drop i).take (j - i) := by
  unfold subs L
  rw [ByteArray.data_extract]
  simp [List.extract_eq_take_drop]
theorem subs_from (s : ByteArray) (i : Nat) : subs s i s.size = tx ((L s).drop i) := by
  apply L_inj
  rw [L_subs, L_tx]
  rw [List.take_of_length_le (by rw [List.length_drop, L_len]; omega)]
theorem bt_nat (s : ByteArray) (i : Nat) (h : i < s.size) : bt s (i : Int) = (((L s)[i]'h).toNat : Int) := by
  unfold bt
  rw [dif_pos (by simpa using h)]
  rfl
theorem toList_L (s : ByteArray) : s.toList = L s := ByteArray.toList_eq s
theorem w64 {x : Int} (h0 : -9223372036854775808 ≤ x) (h1 : x ≤ 9223372036854775807) : wrap64 x = x := by unfold wrap64; omega
theorem rdOf_zero (t : List ByteArray) : rdOf ByteArray.empty t 0 = t.headD ByteArray.empty := by cases t <;> rfl
/-- A bound under which nothing of the log's comes near a limit. -/
def small (s : ByteArray) : Prop := s.size ≤ 1000000000000
theorem Ev.pos {α : Type} {c : Prop} [Decidable c] {g f : Nat → Option α} {r : α} (h : c) (k : Ev g r) : Ev (fun n => if c then g n else f n) r := by
  obtain ⟨K, k⟩ := k
  exact ⟨K, fun n hn => (if_pos h).trans (k n hn)⟩
theorem Ev.neg {α : Type} {c : Prop} [Decidable c] {g f : Nat → Option α} {r : α} (h : ¬ c) (k : Ev f r) : Ev (fun n => if c then g n else f n) r := by
  obtain ⟨K, k⟩ := k
  exact ⟨K, fun n hn => (if_neg h).trans (k n hn)⟩
theorem Ev.const {α : Type} {g : Option α} {r : α} (h : g = some r) : Ev (fun _ => g) r := ⟨0, fun _ _ => h⟩
theorem Ev.bindc {α β : Type} {g : Option α} {f : Nat → α → Option β} {a : α} {r : β} (h : g = some a) (k : Ev (fun n => f n a) r) : Ev (fun n => g.bind (f n)) r := by
  rw [h]; exact k
theorem Ev.last {α : Type} {g : Nat → Option α} {r : α} (h : ∀ k, g (k + 1) = some r) : Ev g r := ⟨1, fun k hk => by
  obtain ⟨m, rfl⟩ : ∃ m, k = m + 1 := ⟨k - 1, by omega⟩
  exact h m⟩
theorem drop_cons (s : ByteArray) (i : Nat) (h : i < s.size) : (L s).drop i = (L s)[i]'h :: (L s).drop (i + 1) := List.drop_eq_getElem_cons h

/-! ### Small functions -/
theorem l1In_eq (a b c : Int) : spec_l1In.f a b c = some (decide (b ≤ a ∧ a ≤ c)) := by
  unfold spec_l1In.f
  by_cases h : a ≥ b
  · rw [if_pos h]; simp [h]
  · rw [if_neg h]; simp [h]
theorem l1Num_eq (k : Nat) (h : k ≤ 9223372036854775807) : spec_l1Num.f (k : Int) = some (tx (num k)) := by
  unfold spec_l1Num.f
  rw [if_pos ⟨by omega, by omega⟩, ← itoa_num]; rfl
theorem plain_iff (b : UInt8) : plain b ↔ (32 ≤ (b.toNat : Int) ∧ (b.toNat : Int) ≤ 126) ∧ ¬ (b.toNat : Int) = 35 := by
  unfold plain
  have e1 : (32 : UInt8) ≤ b ↔ 32 ≤ (b.toNat : Int) := by rw [UInt8.le_iff_toNat_le]; have : (32 : UInt8).toNat = 32 := rfl; omega
  have e2 : b ≤ (126 : UInt8) ↔ (b.toNat : Int) ≤ 126 := by rw [UInt8.le_iff_toNat_le]; have : (126 : UInt8).toNat = 126 := rfl; omega
  have e3 : b ≠ (35 : UInt8) ↔ ¬ (b.toNat : Int) = 35 := by
    constructor
    · intro h h'
      exact h (UInt8.toNat_inj.1 (by have : (35 : UInt8).toNat = 35 := rfl; omega))
    · rintro h rfl
      exact h rfl
  rw [e1, e2, e3, and_assoc]
theorem l27Plain_loop (s : ByteArray) (m : Int) (hs : small s) : ∀ d i : Nat, i + d = s.size → Ev (fun k => spec_l27Plain.l0 k s m (i : Int)) (decide ((∀ b ∈ (L s).drop i, plain b) ∧ (s.size : Int) ≤ m)) := by
  intro d
  unfold small at hs
  induction d with
  | zero =>
    intro i hi
    refine Ev.last fun k => ?_
    simp only [spec_l27Plain.l0]
    rw [if_neg (by omega)]
    have : (L s).drop i = [] := List.drop_eq_nil_of_le (by rw [L_len]; omega)
    rw [this]
    simp
  | succ d ih =>
    intro i hi
    have hlt : i < s.size := by omega
    have hb := bt_nat s i hlt
    have hr := bt_range s (i : Int)
    by_cases hp : plain ((L s)[i]'hlt)
    · have hp' := (plain_iff _).1 hp
      rw [← hb] at hp'
      refine Ev.step (f := fun k => spec_l27Plain.l0 k s m ((i + 1 : Nat) : Int)) (fun k => ?_) ?_
      · simp only [spec_l27Plain.l0]
        rw [if_pos (by omega), if_pos (by omega), l1In_eq, w64 (by omega) (by omega)]
        simp only [Option.bind_some]
        rw [if_pos (by simpa using hp'.1), if_neg hp'.2, w64 (by omega) (by omega)]
        rfl
      · have := ih (i + 1) (by omega)
        have e : (∀ b ∈ (L s).drop i, plain b) ↔ (∀ b ∈ (L s).drop (i + 1), plain b) := by
          rw [drop_cons s i hlt]
          generalize (L s)[i]'hlt = x at hp
          simp [hp]
        simp only [e]
        exact this
    · refine Ev.last fun k => ?_
      have hp' := fun h => hp ((plain_iff _).2 h)
      rw [← hb] at hp'
      have e : (decide ((∀ b ∈ (L s).drop i, plain b) ∧ (s.size : Int) ≤ m)) = false := by
        rw [drop_cons s i hlt]
        generalize (L s)[i]'hlt = x at hp
        simp [hp]
      rw [e]
      simp only [spec_l27Plain.l0]
      rw [if_pos (by omega), if_pos (by omega), l1In_eq, w64 (by omega) (by omega)]
      simp only [Option.bind_some]
      by_cases h : 32 ≤ bt s (i : Int) ∧ bt s (i : Int) ≤ 126
      · rw [if_pos (by simpa using h), if_pos (Classical.not_not.1 fun q => hp' ⟨h, q⟩)]
      · rw [if_neg (by simpa using h)]
theorem l27Plain_ev (s : ByteArray) (m : Int) (hs : small s) : Ev (fun k => spec_l27Plain.f k s m) (decide ((∀ b ∈ L s, plain b) ∧ (s.size : Int) ≤ m)) := by
  have := l27Plain_loop s m hs s.size 0 (by omega)
  simpa [spec_l27Plain.f] using this
theorem l1Stands_loop (s : ByteArray) (c : UInt8) (hs : small s) : ∀ d i : Nat, i + d = s.size → Ev (fun k => spec_l1Stands.l0 k s (c.toNat : Int) (i : Int)) (decide (c ∈ (L s).drop i)) := by
  intro d
  unfold small at hs
  induction d with
  | zero =>
    intro i hi
    refine Ev.last fun k => ?_
    simp only [spec_l1Stands.l0]
    rw [if_neg (by omega)]
    have : (L s).drop i = [] := List.drop_eq_nil_of_le (by rw [L_len]; omega)
    rw [this]
    simp
  | succ d ih =>
    intro i hi
    have hlt : i < s.size := by omega
    have hb := bt_nat s i hlt
    by_cases hc : (L s)[i]'hlt = c
    · refine Ev.last fun k => ?_
      simp only [spec_l1Stands.l0]
      rw [if_pos (by omega), if_pos (by omega), if_pos (by rw [hb, hc])]
      rw [drop_cons s i hlt, hc]
      simp
    · refine Ev.step (f := fun k => spec_l1Stands.l0 k s (c.toNat : Int) ((i + 1 : Nat) : Int)) (fun k => ?_) ?_
      · simp only [spec_l1Stands.l0]
        rw [if_pos (by omega), if_pos (by omega), if_neg (by rw [hb]; intro h; exact hc (UInt8.toNat_inj.1 (by omega))), w64 (by omega) (by omega)]
        rfl
      · have e : c ∈ (L s).drop i ↔ c ∈ (L s).drop (i + 1) := by
          rw [drop_cons s i hlt]
          generalize (L s)[i]'hlt = x at hc
          have hc' : ¬ c = x := fun h => hc h.symm
          simp [hc']
        simp only [e]
        exact ih (i + 1) (by omega)
theorem l1Stands_ev (s : ByteArray) (c : UInt8) (n : Int) (hn : n = (c.toNat : Int)) (hs : small s) : Ev (fun k => spec_l1Stands.f k s n) (decide (c ∈ L s)) := by
  subst hn
  have := l1Stands_loop s c hs s.size 0 (by omega)
  simpa [spec_l1Stands.f] using this
theorem l27Good_ev (c r : ByteArray) (hc : small c) (hr : small r) : Ev (fun k => spec_l27Good.f k c r) (decide (Rec.good ⟨L c, L r⟩)) := by
  unfold spec_l27Good.f
  by_cases h0 : c.toList = []
  · refine Ev.pos h0 (Ev.const (congrArg some ?_))
    rw [toList_L] at h0
    symm
    exact decide_eq_false (fun g => by have h1 : 1 ≤ (L c).length := g.1; rw [h0] at h1; simp at h1)
  · refine Ev.neg h0 (Ev.bind (l27Plain_ev c 160 hc) ?_)
    rw [toList_L] at h0
    have h1 : 1 ≤ (L c).length := by
      cases h : L c with
      | nil => exact absurd h h0
      | cons a l => simp
    by_cases hp : (∀ b ∈ L c, plain b) ∧ (c.size : Int) ≤ 160
    · refine Ev.pos (by simpa using hp) (Ev.bind (l1Stands_ev c 64 64 rfl hc) ?_)
      have h2 : (L c).length ≤ 160 := by rw [L_len]; omega
      by_cases h64 : 64 ∈ L c
      · refine Ev.pos (by simpa using h64) (Ev.const (congrArg some ?_))
        symm
        exact decide_eq_false (fun g => g.2.2.2.1 h64)
      · refine Ev.neg (by simpa using h64) (Ev.bind (l27Plain_ev r 200 hr) (Ev.const (congrArg some ?_)))
        have e : ((r.size : Int) ≤ 200) ↔ (L r).length ≤ 200 := by rw [L_len]; omega
        refine decide_eq_decide.2 ⟨?_, ?_⟩
        · rintro ⟨a, b⟩; exact ⟨h1, h2, hp.1, h64, e.1 b, a⟩
        · rintro ⟨_, _, _, _, b, a⟩; exact ⟨a, e.2 b⟩
    · refine Ev.neg (by simpa using hp) (Ev.const (congrArg some ?_))
      symm
      refine decide_eq_false (fun g => hp ⟨g.2.2.1, ?_⟩)
      have h2 : (L c).length ≤ 160 := g.2.1
      rw [L_len] at h2
      omega
theorem sum_step (n : Nat) (hn : n < 999979) (b : UInt8) : Int.tmod (wrap64 ((wrap64 ((wrap64 (41 * (n : Int))) + (wrap64 (b.toNat : Int)))) + 1)) 999979 = (((41 * n + b.toNat + 1) % 999979 : Nat) : Int) := by
  have := b.toNat_lt
  rw [w64 (x := 41 * (n : Int)) (by omega) (by omega), w64 (x := (b.toNat : Int)) (by omega) (by omega), w64 (x := 41 * (n : Int) + b.toNat) (by omega) (by omega), w64 (by omega) (by omega)]
  rw [Int.tmod_eq_emod_of_nonneg (by omega)]
  omega
theorem take_succ (s : ByteArray) (i : Nat) (h : i < s.size) : (L s).take (i + 1) = (L s).take i ++ [(L s)[i]'h] := by
  rw [List.take_succ_eq_append_getElem]
theorem l1Sum_loop (s : ByteArray) (hs : small s) : ∀ d i : Nat, i + d = s.size → Ev (fun k => spec_l1Sum.l0 k s (sumOf ((L s).take i) : Int) (i : Int)) (sumOf (L s) : Int) := by
  intro d
  unfold small at hs
  induction d with
  | zero =>
    intro i hi
    refine Ev.last fun k => ?_
    simp only [spec_l1Sum.l0]
    rw [if_neg (by omega), List.take_of_length_le (by rw [L_len]; omega)]
  | succ d ih =>
    intro i hi
    have hlt : i < s.size := by omega
    refine Ev.step (f := fun k => spec_l1Sum.l0 k s (sumOf ((L s).take (i + 1)) : Int) ((i + 1 : Nat) : Int)) (fun k => ?_) (ih (i + 1) (by omega))
    simp only [spec_l1Sum.l0]
    rw [if_pos (by omega), if_pos (by omega), bt_nat s i hlt, sum_step _ (sumOf_lt _), take_succ s i hlt, sumOf_snoc, w64 (by omega) (by omega)]
    rfl
theorem l1Sum_ev (s : ByteArray) (hs : small s) : Ev (fun k => spec_l1Sum.f k s) (sumOf (L s) : Int) := by
  have := l1Sum_loop s hs s.size 0 (by omega)
  simpa [spec_l1Sum.f, sumOf] using this
theorem num_len_big (k : Nat) (h : k < 10000000000000000000) : (num k).length ≤ 30 := by
  unfold num
  rw [Lib.decDigits_length]
  exact nDigits_le 30 _ (by omega) (by omega)
theorem l1Seal_ev (s : ByteArray) (hs : small s) : Ev (fun k => spec_l1Seal.f k s) (tx (sealed (L s))) := by
  have hlt := sumOf_lt (L s)
  have hl := num_len_small (show sumOf (L s) < 1000000 by omega)
  have hs' := hs
  unfold small at hs'
  unfold spec_l1Seal.f
  refine Ev.pos (by omega) (Ev.bind (l1Sum_ev s hs) (Ev.bindc (l1Num_eq _ (by omega)) (Ev.pos ?_ (Ev.const ?_))))
  · rw [cat_size, tx_size]
    have : (⟨#[35]⟩ : ByteArray).size = 1 := rfl
    omega
  · congr 1
    apply L_inj
    rw [L_cat, L_cat, L_tx, L_tx]
    simp [sealed, L_one]
theorem l27Line_ev (k : Nat) (hk : k < 1000000000000000000) (c r : ByteArray) (hc : c.size ≤ 100000000000) (hr : r.size ≤ 100000000000) : Ev (fun n => spec_l27Line.f n (k : Int) c r) (tx (line k ⟨L c, L r⟩)) := by
  have hn := num_len_big k (by omega)
  have e1 : (⟨#[32]⟩ : ByteArray).size = 1 := rfl
  have e2 : (⟨#[64]⟩ : ByteArray).size = 1 := rfl
  unfold spec_l27Line.f
  refine Ev.bindc (l1Num_eq k (by omega)) ?_
  have hb : cat (cat (cat (cat (tx (num k)) ⟨#[32]⟩) c) ⟨#[64]⟩) r = tx (body k ⟨L c, L r⟩) := by
    apply L_inj
    simp only [L_cat, L_tx]
    simp [body, L_one]
  have hsz : (tx (body k ⟨L c, L r⟩)).size ≤ 200000000100 := by
    rw [← hb]
    simp only [cat_size, tx_size, e1, e2]
    omega
  refine Ev.pos (by rw [tx_size]; omega) (Ev.pos (by simp only [cat_size, tx_size, e1]; omega) (Ev.pos (by simp only [cat_size, tx_size, e1]; omega) (Ev.pos (by simp only [cat_size, tx_size, e1, e2]; omega) ?_)))
  rw [hb]
  refine Ev.bind (l1Seal_ev _ (by unfold small; omega)) ?_
  have hl := seal_len (L (tx (body k ⟨L c, L r⟩)))
  rw [L_len] at hl
  refine Ev.pos (by rw [tx_size]; omega) (Ev.const (congrArg some ?_))
  apply L_inj
  simp only [L_cat, L_tx]
  simp [line, L_one]
end Go.Proofs.YtneaeaoemhghdaaDoor.G

/- What the printed functions of the log come to: the reference's reading of a log. -/
namespace Go.Proofs.YtneaeaoemhghdaaDoor.G
open Go.RowKit Go.Proofs.YtneaeaoemhghdaaDoorW.PrintWords Go.Proofs.YtneaeaoemhghdaaDoorW.PrintLast Go.Proofs.YtneaeaoemhghdaaDoor.LogM
set_option linter.unusedVariables false
set_option linter.unusedSimpArgs false

/-! ### Splitting at one byte -/
def splitL (b : UInt8) : List UInt8 → List (List UInt8)
  | [] => [[]]
  | a :: l => if a = b then [] :: splitL b l else match splitL b l with
    | [] => [[a]]
    | h :: t => (a :: h) :: t
theorem splitL_ne (b : UInt8) (l : List UInt8) : splitL b l ≠ [] := by
  cases l with
  | nil => simp [splitL]
  | cons a l =>
    unfold splitL
    split
    · simp
    · split <;> simp
/-- What is split, behind a piece that has begun. -/
def front (p : List UInt8) : List (List UInt8) → List (List UInt8)
  | [] => [p]
  | h :: t => (p ++ h) :: t
theorem front_eq (b a : UInt8) (p l : List UInt8) : front p (splitL b (a :: l)) = if a = b then p :: splitL b l else front (p ++ [a]) (splitL b l) := by
  by_cases h : a = b
  · rw [if_pos h]; simp [splitL, h, front]
  · rw [if_neg h]
    cases hs : splitL b l with
    | nil => exact absurd hs (splitL_ne b l)
    | cons x y => simp [splitL, h, hs, front]
theorem splitL_head (b : UInt8) (l : List UInt8) : (splitL b l).headD [] = upto b l := by
  induction l with
  | nil => rfl
  | cons a l ih =>
    by_cases h : a = b
    · simp [splitL, h, upto]
    · cases hs : splitL b l with
      | nil => exact absurd hs (splitL_ne b l)
      | cons x y =>
        rw [hs] at ih
        simp only [List.headD_cons] at ih
        simp [splitL, h, hs, upto, ih]
theorem splitL_two (b : UInt8) (l : List UInt8) : 2 ≤ (splitL b l).length ↔ b ∈ l := by
  induction l with
  | nil => simp [splitL]
  | cons a l ih =>
    by_cases h : a = b
    · subst h
      have : 0 < (splitL a l).length := List.length_pos_iff.2 (splitL_ne a l)
      simp [splitL]
      omega
    · have h' : ¬ b = a := fun e => h e.symm
      cases hs : splitL b l with
      | nil => exact absurd hs (splitL_ne b l)
      | cons x y =>
        rw [hs] at ih
        simp only [List.length_cons] at ih
        simp only [splitL, h, if_false, hs, List.length_cons, List.mem_cons, h', false_or]
        exact ih
theorem l1Split_loop (s : ByteArray) (b : UInt8) (hs : small s) : ∀ (d i fr : Nat) (out : List ByteArray), i + d = s.size → fr ≤ i → out.length ≤ fr →
    Ev (fun k => spec_l1Split.l0 k s (b.toNat : Int) out (fr : Int) (i : Int)) (out ++ (front (((L s).drop fr).take (i - fr)) (splitL b ((L s).drop i))).map tx) := by
  intro d
  have hs' := hs
  unfold small at hs'
  induction d with
  | zero =>
    intro i fr out hi hf ho
    refine Ev.last fun k => ?_
    simp only [spec_l1Split.l0]
    rw [if_neg (by omega), if_pos (by omega), if_pos (by omega), if_pos (by omega)]
    have : (L s).drop i = [] := List.drop_eq_nil_of_le (by rw [L_len]; omega)
    rw [this]
    simp only [splitL, front, List.append_nil, List.map_cons, List.map_nil, Int.toNat_natCast]
    rw [subs_from, List.take_of_length_le (by rw [List.length_drop, L_len]; omega)]
  | succ d ih =>
    intro i fr out hi hf ho
    have hlt : i < s.size := by omega
    have hb := bt_nat s i hlt
    rw [drop_cons s i hlt, front_eq]
    by_cases hc : (L s)[i]'hlt = b
    · rw [if_pos hc]
      refine Ev.step (f := fun k => spec_l1Split.l0 k s (b.toNat : Int) (out ++ [tx (((L s).drop fr).take (i - fr))]) ((i + 1 : Nat) : Int) ((i + 1 : Nat) : Int)) (fun k => ?_) ?_
      · simp only [spec_l1Split.l0]
        rw [if_pos (by omega), if_pos (by omega), if_pos (by rw [hb, hc]), if_pos (by omega), if_pos (by omega), if_pos (by omega), if_pos (by omega), w64 (by omega) (by omega)]
        have : subs s (fr : Int).toNat (i : Int).toNat = tx (((L s).drop fr).take (i - fr)) := by
          apply L_inj
          rw [L_subs, L_tx]
          simp
        rw [this]
        rfl
      · have := ih (i + 1) (i + 1) (out ++ [tx (((L s).drop fr).take (i - fr))]) (by omega) (by omega) (by simp; omega)
        have e : front (((L s).drop (i + 1)).take (i + 1 - (i + 1))) (splitL b ((L s).drop (i + 1))) = splitL b ((L s).drop (i + 1)) := by
          rw [Nat.sub_self]
          cases h : splitL b ((L s).drop (i + 1)) with
          | nil => exact absurd h (splitL_ne _ _)
          | cons x y => simp [front]
        rw [e] at this
        simpa using this
    · rw [if_neg hc]
      refine Ev.step (f := fun k => spec_l1Split.l0 k s (b.toNat : Int) out (fr : Int) ((i + 1 : Nat) : Int)) (fun k => ?_) ?_
      · simp only [spec_l1Split.l0]
        rw [if_pos (by omega), if_pos (by omega), if_neg (by rw [hb]; intro h; exact hc (UInt8.toNat_inj.1 (by omega))), w64 (by omega) (by omega)]
        rfl
      · have := ih (i + 1) fr out (by omega) (by omega) (by omega)
        have e : ((L s).drop fr).take (i + 1 - fr) = ((L s).drop fr).take (i - fr) ++ [(L s)[i]'hlt] := by
          rw [show i + 1 - fr = (i - fr) + 1 by omega, List.take_succ_eq_append_getElem (by rw [List.length_drop, L_len]; omega)]
          congr 2
          rw [List.getElem_drop]
          congr 1
          omega
        rw [e] at this
        exact this
theorem l1Split_ev (s : ByteArray) (b : UInt8) (n : Int) (hn : n = (b.toNat : Int)) (hs : small s) : Ev (fun k => spec_l1Split.f k s n) ((splitL b (L s)).map tx) := by
  subst hn
  have := l1Split_loop s b hs s.size 0 0 [] (by omega) (by omega) (by simp)
  have e : front (((L s).drop 0).take (0 - 0)) (splitL b ((L s).drop 0)) = splitL b (L s) := by
    rw [List.drop_zero]
    cases h : splitL b (L s) with
    | nil => exact absurd h (splitL_ne _ _)
    | cons x y => simp [front]
  rw [e] at this
  simpa [spec_l1Split.f] using this
theorem split_pos (b : UInt8) (l : List UInt8) : 0 < (((splitL b l).map tx).length : Int) := by
  have := List.length_pos_iff.2 (splitL_ne b l)
  rw [List.length_map]
  omega
theorem split_rd (b : UInt8) (l : List UInt8) : rdOf ByteArray.empty ((splitL b l).map tx) 0 = tx (upto b l) := by
  rw [rdOf_zero, ← splitL_head]
  cases h : splitL b l with
  | nil => exact absurd h (splitL_ne _ _)
  | cons x y => rfl

/-! ### A line, read -/
/-- What l27Read says of a line (its newline struck) at number k. -/
def readS (k : Nat) (l : List UInt8) : Rec × Bool :=
  if (num k ++ [32]) <+: upto 35 l then
    (if 64 ∈ (upto 35 l).drop ((num k).length + 1) then
      (⟨upto 64 ((upto 35 l).drop ((num k).length + 1)), past 64 ((upto 35 l).drop ((num k).length + 1))⟩,
        decide (Rec.good ⟨upto 64 ((upto 35 l).drop ((num k).length + 1)), past 64 ((upto 35 l).drop ((num k).length + 1))⟩ ∧ line k ⟨upto 64 ((upto 35 l).drop ((num k).length + 1)), past 64 ((upto 35 l).drop ((num k).length + 1))⟩ = l ++ [10]))
    else (⟨[], []⟩, false))
  else (⟨[], []⟩, false)
theorem upto_len (b : UInt8) (l : List UInt8) : (upto b l).length ≤ l.length := by
  induction l with
  | nil => simp [upto]
  | cons a l ih =>
    unfold upto
    split
    · simp
    · simp; exact ih
theorem upto_len_eq (b : UInt8) (l : List UInt8) : (upto b l).length = l.length ↔ b ∉ l := by
  constructor
  · intro h hb
    have := congrArg List.length (upto_past hb)
    simp at this
    omega
  · intro h; rw [upto_none h]
theorem past_drop {b : UInt8} {l : List UInt8} (h : b ∈ l) : l.drop ((upto b l).length + 1) = past b l := by
  have e := upto_past h
  have : ∀ n, l.drop n = (upto b l ++ b :: past b l).drop n := fun n => by rw [← e]
  rw [this, ← List.drop_drop, List.drop_left]
  rfl
theorem l27Read_ev (k : Nat) (hk : k < 1000000) (s : ByteArray) (hs : s.size ≤ 10000000000) :
    Ev (fun n => spec_l27Read.f n s (k : Int)) (tx (readS k (L s)).1.c, tx (readS k (L s)).1.r, (readS k (L s)).2) := by
  have hn := num_len_small hk
  have e1 : (⟨#[32]⟩ : ByteArray).size = 1 := rfl
  have hsm : small s := by unfold small; omega
  unfold spec_l27Read.f
  refine Ev.bindc (l1Num_eq k (by omega)) (Ev.pos (by rw [tx_size]; omega) (Ev.bind (l1Split_ev s 35 35 rfl hsm) (Ev.pos (split_pos _ _) ?_)))
  rw [split_rd]
  have ha : cat (tx (num k)) ⟨#[32]⟩ = tx (num k ++ [32]) := by
    apply L_inj
    rw [L_cat, L_tx, L_tx, L_one]
  rw [ha]
  have hal : (tx (num k ++ [32])).size = (num k).length + 1 := by rw [tx_size]; simp
  have htl : (tx (upto 35 (L s))).size = (upto 35 (L s)).length := tx_size _
  have hul := upto_len 35 (L s)
  rw [L_len] at hul
  -- what follows the test of the front
  have rest : ∀ q : Bool, (q = false ↔ (num k ++ [32]) <+: upto 35 (L s)) → Ev (fun n => spec_l27Read.j0 n s (k : Int) (tx (num k ++ [32])) (tx (upto 35 (L s))) q) (tx (readS k (L s)).1.c, tx (readS k (L s)).1.r, (readS k (L s)).2) := by
    intro q hq
    cases q with
    | true =>
      have hnp : ¬ (num k ++ [32]) <+: upto 35 (L s) := fun h => by have := hq.2 h; cases this
      refine Ev.last fun n => ?_
      simp only [spec_l27Read.j0, if_true]
      unfold readS
      rw [if_neg hnp]
      rfl
    | false =>
      have hp := hq.1 rfl
      have hle := hp.length_le
      rw [List.length_append, List.length_singleton] at hle
      obtain ⟨rst, hrst⟩ : ∃ rst, (upto 35 (L s)).drop ((num k).length + 1) = rst := ⟨_, rfl⟩
      have hrl : rst.length ≤ s.size := by rw [← hrst, List.length_drop]; omega
      have hsub : subs (tx (upto 35 (L s))) (tx (num k ++ [32])).size (tx (upto 35 (L s))).size = tx rst := by
        rw [subs_from, L_tx, hal, hrst]
      refine Ev.step (f := fun n => (spec_l1Split.f n (tx rst) 64).bind fun t127 => (if 0 < (t127.length : Int) then (if ((rdOf ByteArray.empty t127 0).size : Int) = ((tx rst).size : Int) then (some ((⟨#[]⟩ : ByteArray), (⟨#[]⟩ : ByteArray), false)) else (if 0 ≤ (wrap64 (((rdOf ByteArray.empty t127 0).size : Int) + 1)) then (if (wrap64 (((rdOf ByteArray.empty t127 0).size : Int) + 1)) ≤ ((tx rst).size : Int) then ((spec_l27Good.f n (rdOf ByteArray.empty t127 0) (subs (tx rst) ((wrap64 (((rdOf ByteArray.empty t127 0).size : Int) + 1)) : Int).toNat (tx rst).size)).bind fun t132 => (if t132 = true then ((spec_l27Line.f n (k : Int) (rdOf ByteArray.empty t127 0) (subs (tx rst) ((wrap64 (((rdOf ByteArray.empty t127 0).size : Int) + 1)) : Int).toNat (tx rst).size)).bind fun t133 => (if s.size + 1 ≤ 9223372036854775807 then (some (rdOf ByteArray.empty t127 0, subs (tx rst) ((wrap64 (((rdOf ByteArray.empty t127 0).size : Int) + 1)) : Int).toNat (tx rst).size, (t133.toList == (cat s (⟨#[10]⟩ : ByteArray)).toList))) else (none))) else (some (rdOf ByteArray.empty t127 0, subs (tx rst) ((wrap64 (((rdOf ByteArray.empty t127 0).size : Int) + 1)) : Int).toNat (tx rst).size, false)))) else (none)) else (none))) else (none))) (fun n => ?_) ?_
      · simp only [spec_l27Read.j0]
        rw [if_neg (by simp), if_pos (by omega), if_pos (by rw [hal, htl]; omega), hsub]
      · have hrs : (tx rst).size = rst.length := tx_size _
        have hrsm : small (tx rst) := by unfold small; rw [hrs]; omega
        refine Ev.bind (l1Split_ev (tx rst) 64 64 rfl hrsm) (Ev.pos (split_pos _ _) ?_)
        rw [split_rd, L_tx, tx_size, hrs]
        have hask := upto_len 64 rst
        by_cases h64 : 64 ∈ rst
        · have hne : ¬ (upto 64 rst).length = rst.length := fun h => (upto_len_eq 64 rst).1 h h64
          have hdr : subs (tx rst) ((wrap64 (((upto 64 rst).length : Int) + 1)) : Int).toNat (tx rst).size = tx (past 64 rst) := by
            rw [subs_from, L_tx, w64 (by omega) (by omega), show (((upto 64 rst).length : Int) + 1).toNat = (upto 64 rst).length + 1 by omega, past_drop h64]
          rw [hrs] at hdr
          have hpl : (past 64 rst).length ≤ rst.length := by rw [← past_drop h64, List.length_drop]; omega
          have hr : readS k (L s) = (⟨upto 64 rst, past 64 rst⟩, decide (Rec.good ⟨upto 64 rst, past 64 rst⟩ ∧ line k ⟨upto 64 rst, past 64 rst⟩ = L s ++ [10])) := by
            unfold readS
            rw [if_pos hp, hrst, if_pos h64]
          rw [hr]
          refine Ev.neg (by omega) (Ev.pos (by rw [w64 (by omega) (by omega)]; omega) (Ev.pos (by rw [w64 (by omega) (by omega)]; omega) ?_))
          rw [hdr]
          have g := l27Good_ev (tx (upto 64 rst)) (tx (past 64 rst)) (by unfold small; rw [tx_size]; omega) (by unfold small; rw [tx_size]; omega)
          rw [L_tx, L_tx] at g
          refine Ev.bind g ?_
          by_cases hg : Rec.good ⟨upto 64 rst, past 64 rst⟩
          · refine Ev.pos (by simpa using hg) ?_
            have ln := l27Line_ev k (by omega) (tx (upto 64 rst)) (tx (past 64 rst)) (by rw [tx_size]; omega) (by rw [tx_size]; omega)
            rw [L_tx, L_tx] at ln
            refine Ev.bind ln (Ev.pos (by omega) (Ev.const ?_))
            rw [toList_L, toList_L, L_tx, L_cat, L_one]
            congr 3
            rw [Bool.eq_iff_iff]
            simp [hg]
          · refine Ev.neg (by simpa using hg) (Ev.const ?_)
            congr 3
            symm
            exact decide_eq_false fun h => hg h.1
        · have he := (upto_len_eq 64 rst).2 h64
          refine Ev.pos (by rw [he]) (Ev.const ?_)
          unfold readS
          rw [if_pos hp, hrst, if_neg h64]
          rfl
  by_cases hlt : (upto 35 (L s)).length < (num k).length + 1
  · refine Ev.pos (by rw [hal, htl]; omega) (rest true ?_)
    constructor
    · intro h; cases h
    · intro h
      have := h.length_le
      simp at this
      omega
  · refine Ev.neg (by rw [hal, htl]; omega) (Ev.pos (by omega) (Ev.pos (by rw [hal, htl]; omega) (rest _ ?_)))
    rw [toList_L, toList_L, L_subs, L_tx, L_tx, hal]
    simp only [List.drop_zero, Nat.sub_zero]
    rw [bne_eq_false_iff_eq]
    constructor
    · intro h; rw [← h]; exact List.take_prefix _ _
    · rintro ⟨t, ht⟩
      have hl : (num k).length + 1 = (num k ++ [32]).length := by simp
      rw [← ht, hl, List.take_left]
/-- A line that is read is the first record of the text that begins with it. -/
theorem readS_first (k : Nat) (l t : List UInt8) (h10 : 10 ∉ l) : first k (l ++ 10 :: t) = if (readS k l).2 = true then some (readS k l).1 else none := by
  by_cases h : (readS k l).2 = true
  · rw [if_pos h]
    refine first_some.2 ?_
    unfold readS at h ⊢
    split at h
    · rename_i hp
      rw [if_pos hp]
      split at h
      · rename_i h64
        rw [if_pos h64]
        have h := of_decide_eq_true h
        exact ⟨h.1, ⟨t, by rw [h.2]; simp⟩⟩
      · cases h
    · cases h
  · rw [if_neg h]
    refine first_none.2 fun e he hl => h ?_
    obtain ⟨u, hu⟩ := hl
    have h1 : upto 10 (l ++ 10 :: t) = l := upto_app h10
    rw [← hu, line_upto he] at h1
    subst h1
    have h35 : upto 35 (sealed (body k e)) = body k e := seal_upto (body_nin35 he)
    unfold readS
    rw [h35]
    have hp : (num k ++ [32]) <+: body k e := ⟨e.c ++ 64 :: e.r, by simp [body]⟩
    rw [if_pos hp, body_drop, if_pos (by simp), good_upto he, good_past he]
    exact decide_eq_true ⟨he, rfl⟩
theorem readS_rec (k : Nat) (l t : List UInt8) (h10 : 10 ∉ l) (e : Rec) (h : first k (l ++ 10 :: t) = some e) : (readS k l) = (e, true) ∧ line k e = l ++ [10] := by
  rw [readS_first k l t h10] at h
  split at h
  · rename_i hr
    injection h with h
    refine ⟨by rw [← h, ← hr], ?_⟩
    have := hr
    rw [← h]
    unfold readS at this ⊢
    split at this
    · rename_i hp
      rw [if_pos hp]
      split at this
      · rename_i h64
        rw [if_pos h64]
        exact (of_decide_eq_true this).2
      · cases this
    · cases this
  · cases h
end Go.Proofs.YtneaeaoemhghdaaDoor.G

/- What the printed functions of the log come to: the reference's log. -/
namespace Go.Proofs.YtneaeaoemhghdaaDoor.G
open Go.RowKit Go.Proofs.YtneaeaoemhghdaaDoorW.PrintWords Go.Proofs.YtneaeaoemhghdaaDoorW.PrintLast Go.Proofs.YtneaeaoemhghdaaDoor.LogM
set_option linter.unusedVariables false
set_option linter.unusedSimpArgs false

def toS (e : Rec) : S127 := ⟨tx e.c, tx e.r⟩
theorem first_nil (k : Nat) : first k [] = none := first_none.2 fun e _ h => by
  have h1 := h.length_le
  have h2 := line_pos k e
  rw [List.length_nil] at h1
  omega
theorem recs_none {n k : Nat} {s : List UInt8} (h : first k s = none) : recs n k s = [] := by
  cases n with
  | zero => rfl
  | succ n => unfold recs; rw [h]
theorem recs_some {n k : Nat} {s : List UInt8} {e : Rec} (h : first k s = some e) : recs (n + 1) k s = e :: recs n (k + 1) (s.drop (line k e).length) := by
  rw [recs, h]
theorem first_no10 {k : Nat} {s : List UInt8} (h : 10 ∉ s) : first k s = none := first_none.2 fun e _ hp => by
  obtain ⟨t, ht⟩ := hp
  apply h
  rw [← ht]
  simp [line]
theorem l27Open_loop (s : ByteArray) (hs : s.size ≤ 10000000000) : ∀ (d k p : Nat) (out : List S127), d + k = 60 → out.length = k → p ≤ s.size →
    Ev (fun n => spec_l27Open.l0 n s out (p : Int)) (out ++ (recs d k ((L s).drop p)).map toS, ((p + (text k (recs d k ((L s).drop p))).length : Nat) : Int)) := by
  intro d
  induction d with
  | zero =>
    intro k p out hd ho hp
    have hr : recs 0 k ((L s).drop p) = [] := rfl
    rw [hr]
    refine Ev.step (f := fun n => spec_l27Open.j1 n s out (p : Int) false) (fun n => ?_) (Ev.last fun n => ?_)
    · simp only [spec_l27Open.l0]
      by_cases h : (p : Int) < (s.size : Int)
      · rw [if_pos h, decide_eq_false (by omega)]
      · rw [if_neg h]
    · simp only [spec_l27Open.j1]
      rw [if_neg (by simp)]
      simp [text]
  | succ d ih =>
    intro k p out hd ho hp
    by_cases hlt : p < s.size
    · have hsub : subs s (p : Int).toNat s.size = tx ((L s).drop p) := by rw [subs_from]; simp
      have hdl : ((L s).drop p).length ≤ s.size := by rw [List.length_drop, L_len]; omega
      refine Ev.step (f := fun n => spec_l27Open.j1 n s out (p : Int) true) (fun n => ?_) ?_
      · simp only [spec_l27Open.l0]
        rw [if_pos (by omega), decide_eq_true (by omega)]
      generalize hD : (L s).drop p = D at hsub hdl ⊢
      refine Ev.step (f := fun n => (spec_l1Split.f n (tx D) 10).bind fun t137 => (if 0 < (t137.length : Int) then ((spec_l27Read.f n (rdOf ByteArray.empty t137 0) (out.length : Int)).bind fun bt141 => (if (t137.length : Int) < 2 then (some (out, (p : Int))) else (if bt141.2.2 = true then (if out.length < 4398046511104 then (spec_l27Open.l0 n s (out ++ [(⟨bt141.1, bt141.2.1⟩ : S127)]) (wrap64 ((wrap64 ((p : Int) + ((rdOf ByteArray.empty t137 0).size : Int))) + 1))) else (none)) else (some (out, (p : Int)))))) else (none))) (fun n => ?_) ?_
      · simp only [spec_l27Open.j1]
        rw [if_pos trivial, if_pos (by omega), if_pos (by omega), hsub]
      · refine Ev.bind (l1Split_ev (tx D) 10 10 rfl (by unfold small; rw [tx_size]; omega)) (Ev.pos (split_pos _ _) ?_)
        rw [split_rd, L_tx]
        have hul := upto_len 10 D
        have rd := l27Read_ev k (by omega) (tx (upto 10 D)) (by rw [tx_size]; omega)
        rw [L_tx] at rd
        rw [← ho] at rd
        refine Ev.bind rd ?_
        rw [ho]
        have h2 := splitL_two 10 D
        by_cases h10 : 10 ∈ D
        · have h2' := h2.2 h10
          refine Ev.neg (by rw [List.length_map]; omega) ?_
          have hn10 := upto_nin 10 D
          have hD' := upto_past h10
          have hf := readS_first k (upto 10 D) (past 10 D) hn10
          rw [← hD'] at hf
          by_cases hr : (readS k (upto 10 D)).2 = true
          · rw [if_pos hr] at hf
            refine Ev.pos hr (Ev.pos (by omega) ?_)
            have hl : line k (readS k (upto 10 D)).1 = upto 10 D ++ [10] := by
              have := readS_rec k (upto 10 D) (past 10 D) hn10 (readS k (upto 10 D)).1 (by rw [← hD']; exact hf)
              exact this.2
            have hll : (line k (readS k (upto 10 D)).1).length = (upto 10 D).length + 1 := by rw [hl]; simp
            rw [recs_some hf, hll]
            have hDl : D.length = s.size - p := by rw [← hD, List.length_drop, L_len]
            have hpl : (upto 10 D).length + 1 ≤ D.length := by
              have := congrArg List.length hD'
              simp at this
              omega
            rw [tx_size, w64 (x := (p : Int) + ((upto 10 D).length : Int)) (by omega) (by omega), w64 (by omega) (by omega)]
            have := ih (k + 1) (p + ((upto 10 D).length + 1)) (out ++ [⟨tx (readS k (upto 10 D)).1.c, tx (readS k (upto 10 D)).1.r⟩]) (by omega) (by simp [ho]) (by omega)
            rw [← List.drop_drop, hD] at this
            have e1 : ((p : Int) + ((upto 10 D).length : Int) + 1) = ((p + ((upto 10 D).length + 1) : Nat) : Int) := by omega
            rw [e1]
            have e2 : (text k ((readS k (upto 10 D)).1 :: recs d (k + 1) (D.drop ((upto 10 D).length + 1)))).length = (upto 10 D).length + 1 + (text (k + 1) (recs d (k + 1) (D.drop ((upto 10 D).length + 1)))).length := by
              simp only [text, List.length_append, hll]
            rw [e2, List.map_cons]
            generalize (text (k + 1) (recs d (k + 1) (D.drop ((upto 10 D).length + 1)))).length = T at this ⊢
            generalize (recs d (k + 1) (D.drop ((upto 10 D).length + 1))).map toS = Y at this ⊢
            have e3 : out ++ toS (readS k (upto 10 D)).1 :: Y = (out ++ [toS (readS k (upto 10 D)).1]) ++ Y := by simp
            have e4 : p + ((upto 10 D).length + 1 + T) = p + ((upto 10 D).length + 1) + T := by omega
            rw [e3, e4]
            exact this
          · rw [if_neg hr] at hf
            refine Ev.neg hr (Ev.const ?_)
            rw [recs_none hf]
            simp [text]
        · have h2' : ¬ 2 ≤ (splitL 10 D).length := fun h => h10 (h2.1 h)
          refine Ev.pos (by rw [List.length_map]; omega) (Ev.const ?_)
          rw [recs_none (first_no10 h10)]
          simp [text]
    · have hD : (L s).drop p = [] := List.drop_eq_nil_of_le (by rw [L_len]; omega)
      rw [hD, recs_none (first_nil k)]
      refine Ev.step (f := fun n => spec_l27Open.j1 n s out (p : Int) false) (fun n => ?_) (Ev.last fun n => ?_)
      · simp only [spec_l27Open.l0]
        rw [if_neg (by omega)]
      · simp only [spec_l27Open.j1]
        rw [if_neg (by simp)]
        simp [text]
theorem l27Open_ev (s : ByteArray) (hs : s.size ≤ 10000000000) : Ev (fun n => spec_l27Open.f n s) ((all (L s)).map toS, (endOf (L s) : Int)) := by
  have := l27Open_loop s hs 60 0 0 [] rfl rfl (by omega)
  simpa [spec_l27Open.f, all, endOf] using this
/-- A log's fields are those of a valid one. -/
def vlog (D P : List UInt8) (n : Int) : Prop := D.length + P.length ≤ 30000 ∧ endOf (D ++ P) = D.length + P.length ∧ endOf D = D.length ∧ ((all (D ++ P)).length : Int) = n
instance (D P : List UInt8) (n : Int) : Decidable (vlog D P n) := inferInstanceAs (Decidable (_ ∧ _ ∧ _ ∧ _))
theorem l27Log_ev (D P : ByteArray) (n : Int) (hD : D.size ≤ 140737488351232) (hP : P.size ≤ 140737488351232) : Ev (fun k => spec_l27Log.f k D P n) (decide (vlog (L D) (L P) n)) := by
  unfold spec_l27Log.f
  have hw : wrap64 ((D.size : Int) + (P.size : Int)) = (D.size : Int) + (P.size : Int) := w64 (by omega) (by omega)
  have j : ∀ b, Ev (fun k => spec_l27Log.j0 k b) b := fun b => Ev.last fun k => rfl
  by_cases hb : D.size + P.size ≤ 30000
  · refine Ev.neg (by rw [hw]; omega) (Ev.pos (by omega) (Ev.bind (l27Open_ev (cat D P) (by rw [cat_size]; omega)) (Ev.bind (l27Open_ev D (by omega)) ?_)))
    rw [L_cat, hw]
    have fin : ∀ b, (b = true ↔ vlog (L D) (L P) n) → Ev (fun k => spec_l27Log.j0 k b) (decide (vlog (L D) (L P) n)) := by
      intro b hb
      have : decide (vlog (L D) (L P) n) = b := by
        rw [Bool.eq_iff_iff, hb]
        simp
      rw [this]
      exact j b
    by_cases h1 : endOf (L D ++ L P) = D.size + P.size
    · refine Ev.pos (by omega) ?_
      by_cases h2 : endOf (L D) = D.size
      · refine Ev.pos (by omega) (fin _ ?_)
        simp only [List.length_map, beq_iff_eq, vlog]
        exact ⟨fun h => ⟨hb, h1, h2, h⟩, fun h => h.2.2.2⟩
      · refine Ev.neg (by omega) (fin _ ?_)
        simp only [Bool.false_eq_true, false_iff]
        exact fun h => h2 h.2.2.1
    · refine Ev.neg (by omega) (fin _ ?_)
      simp only [Bool.false_eq_true, false_iff]
      exact fun h => h1 h.2.1
  · refine Ev.pos (by rw [hw]; omega) (Ev.const (congrArg some ?_))
    symm
    exact decide_eq_false fun h => hb h.1
end Go.Proofs.YtneaeaoemhghdaaDoor.G

/- What the printed functions of the log come to: the program's side. -/
namespace Go.Proofs.YtneaeaoemhghdaaDoor.G
open Go.RowKit Go.Proofs.YtneaeaoemhghdaaDoorW.PrintWords Go.Proofs.YtneaeaoemhghdaaDoorW.PrintLast Go.Proofs.YtneaeaoemhghdaaDoor.LogM
set_option linter.unusedVariables false
set_option linter.unusedSimpArgs false

theorem in_eq (a b c : Int) : impl_in.f a b c = some (decide (b ≤ a ∧ a ≤ c)) := by
  unfold impl_in.f
  by_cases h : a ≥ b
  · rw [if_pos h]; simp [h]
  · rw [if_neg h]; simp [h]
theorem plainB_eq (b : UInt8) : plainB b = decide (plain b) := by
  rw [Bool.eq_iff_iff]
  unfold plainB
  simp only [Bool.and_eq_true, decide_eq_true_eq, plain_iff]
  omega
theorem isPlain_eq (s : ByteArray) (hs : s.size ≤ 9223372036854775807) : impl_isPlain.f s = some (decide (∀ b ∈ L s, plain b)) := by
  unfold impl_isPlain.f
  rw [if_pos hs]
  congr 1
  rw [Bool.eq_iff_iff, decide_eq_true_iff]
  have e : ((L s).all plainB = true) ↔ ∀ b ∈ L s, plain b := by
    rw [List.all_eq_true]
    exact forall₂_congr fun b _ => by rw [plainB_eq, decide_eq_true_iff]
  exact e
theorem contains_eq (s : ByteArray) (b : UInt8) (hs : s.size < 4294967281) : strings_Contains.f s ⟨#[b]⟩ = some (decide (b ∈ L s)) := by
  unfold strings_Contains.f
  rw [if_pos hs]
  exact congrArg some (contains_one b (L s))
theorem IsValidRecord_eq (c r : ByteArray) : impl_IsValidRecord.f c r = some (decide (Rec.good ⟨L c, L r⟩)) := by
  unfold impl_IsValidRecord.f
  rw [in_eq]
  simp only [Option.bind_some]
  by_cases h1 : (1 : Int) ≤ (c.size : Int) ∧ (c.size : Int) ≤ 160
  · rw [if_pos (by simpa using h1), isPlain_eq _ (by omega)]
    simp only [Option.bind_some]
    by_cases h2 : ∀ b ∈ L c, plain b
    · rw [if_pos (by simpa using h2), contains_eq _ _ (by omega)]
      simp only [Option.bind_some]
      by_cases h3 : 64 ∈ L c
      · rw [if_pos (by simpa using h3)]
        exact congrArg some (decide_eq_false (fun g => g.2.2.2.1 h3)).symm
      · rw [if_neg (by simpa using h3)]
        by_cases h4 : (r.size : Int) ≤ 200
        · rw [if_pos h4, isPlain_eq _ (by omega)]
          simp only [Option.bind_some]
          refine congrArg some (decide_eq_decide.2 ⟨fun g => ⟨?_, ?_, h2, h3, ?_, g⟩, fun g => g.2.2.2.2.2⟩)
          · show 1 ≤ (L c).length
            rw [L_len]; omega
          · show (L c).length ≤ 160
            rw [L_len]; omega
          · show (L r).length ≤ 200
            rw [L_len]; omega
        · rw [if_neg h4]
          refine congrArg some (decide_eq_false (fun g => h4 ?_)).symm
          have : (L r).length ≤ 200 := g.2.2.2.2.1
          rw [L_len] at this
          omega
    · rw [if_neg (by simpa using h2)]
      exact congrArg some (decide_eq_false (fun g => h2 g.2.2.1)).symm
  · rw [if_neg (by simpa using h1)]
    refine congrArg some (decide_eq_false (fun g => h1 ?_)).symm
    have a : 1 ≤ (L c).length := g.1
    have b : (L c).length ≤ 160 := g.2.1
    rw [L_len] at a b
    omega
theorem decimal_eq (k : Nat) (h : k ≤ 9223372036854775807) : impl_decimal.f (k : Int) = some (tx (num k)) := by
  unfold impl_decimal.f strconv_Itoa.f
  rw [if_pos ⟨by omega, by omega⟩, ← itoa_num]
  rfl
theorem Checksum_loop (s : ByteArray) (hs : small s) : ∀ d i : Nat, i + d = s.size → Ev (fun k => impl_Checksum.l0 k s (sumOf ((L s).take i) : Int) (s.size : Int) (i : Int)) ((sumOf (L s) : Int), true) := by
  intro d
  unfold small at hs
  induction d with
  | zero =>
    intro i hi
    refine Ev.last fun k => ?_
    simp only [impl_Checksum.l0]
    rw [if_neg (by omega), List.take_of_length_le (by rw [L_len]; omega)]
  | succ d ih =>
    intro i hi
    have hlt : i < s.size := by omega
    refine Ev.step (f := fun k => impl_Checksum.l0 k s (sumOf ((L s).take (i + 1)) : Int) (s.size : Int) ((i + 1 : Nat) : Int)) (fun k => ?_) (ih (i + 1) (by omega))
    simp only [impl_Checksum.l0]
    rw [if_pos (by omega), if_pos (by omega), if_pos (by omega), bt_nat s i hlt, sum_step _ (sumOf_lt _), take_succ s i hlt, sumOf_snoc, w64 (by omega) (by omega)]
    rfl
theorem Checksum_ev (s : ByteArray) (hs : s.size ≤ 4000) : Ev (fun k => impl_Checksum.f k s) ((sumOf (L s) : Int), true) := by
  unfold impl_Checksum.f
  refine Ev.neg (by omega) ?_
  have := Checksum_loop s (by unfold small; omega) s.size 0 (by omega)
  simpa [sumOf] using this
theorem sealed_cat (s : ByteArray) : cat (cat s ⟨#[35]⟩) (tx (num (sumOf (L s)))) = tx (sealed (L s)) := by
  apply L_inj
  rw [L_cat, L_cat, L_tx, L_tx, L_one]
  simp [sealed]
/-- What AppendChecksum answers. -/
def sealI (l : List UInt8) : List UInt8 × Bool := if l.length ≤ 4000 ∧ 35 ∉ l ∧ (sealed l).length ≤ 4000 then (sealed l, true) else ([], false)
theorem AppendChecksum_ev (s : ByteArray) (hs : s.size ≤ 1000000000) : Ev (fun k => impl_AppendChecksum.f k s) (tx (sealI (L s)).1, (sealI (L s)).2) := by
  have e1 : (⟨#[35]⟩ : ByteArray).size = 1 := rfl
  have hlt := sumOf_lt (L s)
  have hl := num_len_small (show sumOf (L s) < 1000000 by omega)
  unfold impl_AppendChecksum.f
  by_cases h4 : s.size ≤ 4000
  · refine Ev.bind (Checksum_ev s h4) (Ev.pos (by omega) (Ev.bindc (decimal_eq _ (by omega)) (Ev.pos (by rw [cat_size, tx_size, e1]; omega) (Ev.pos rfl (Ev.bindc (contains_eq _ _ (by omega)) ?_)))))
    rw [sealed_cat, tx_size]
    unfold sealI
    by_cases h35 : 35 ∈ L s
    · refine Ev.pos (by simpa using h35) (Ev.const ?_)
      rw [if_neg (fun h => h.2.1 h35)]
      rfl
    · refine Ev.neg (by simpa using h35) ?_
      by_cases hz : (sealed (L s)).length ≤ 4000
      · refine Ev.neg (by omega) (Ev.const ?_)
        rw [if_pos ⟨by rw [L_len]; omega, h35, hz⟩]
      · refine Ev.pos (by omega) (Ev.const ?_)
        rw [if_neg (fun h => hz h.2.2)]
        rfl
  · have hc : Ev (fun k => impl_Checksum.f k s) ((0 : Int), false) := by
      unfold impl_Checksum.f
      exact Ev.pos (by omega) (Ev.const rfl)
    have h0 : num 0 = [48] := by unfold num; rw [Lib.decDigits, dif_pos (by omega)]; rfl
    refine Ev.bind hc (Ev.pos (by omega) (Ev.bindc (decimal_eq 0 (by omega)) (Ev.pos (by rw [cat_size, tx_size, e1, h0]; simp; omega) (Ev.neg (by simp) (Ev.const ?_)))))
    unfold sealI
    rw [if_neg (fun h => h4 (by have := h.1; rw [L_len] at this; omega))]
    rfl
theorem sealI_good {k : Nat} (hk : k < 1000000) {e : Rec} (h : e.good) : sealI (body k e) = (sealed (body k e), true) := by
  have h1 := body_len h hk
  have h2 := seal_len (body k e)
  unfold sealI
  rw [if_pos ⟨by omega, body_nin35 h, by omega⟩]
/-- What EncodeRecord answers. -/
theorem EncodeRecord_ev (k : Int) (c r : ByteArray) (hc : c.size ≤ 10000000000) (hr : r.size ≤ 10000000000) :
    Ev (fun n => impl_EncodeRecord.f n k c r) (if (0 ≤ k ∧ k ≤ 59) ∧ Rec.good ⟨L c, L r⟩ then (tx (line k.toNat ⟨L c, L r⟩), true) else (tx [], false)) := by
  have e2 : (⟨#[32]⟩ : ByteArray).size = 1 := rfl
  have e3 : (⟨#[64]⟩ : ByteArray).size = 1 := rfl
  unfold impl_EncodeRecord.f
  have bad : Ev (fun n => impl_EncodeRecord.j0 n k true c r) (tx [], false) := Ev.last fun n => by
    simp only [impl_EncodeRecord.j0]
    rw [if_pos trivial]
    rfl
  refine Ev.bindc (in_eq _ _ _) ?_
  by_cases hk : 0 ≤ k ∧ k ≤ 59
  · refine Ev.pos (by simpa using hk) (Ev.bindc (IsValidRecord_eq _ _) ?_)
    by_cases hg : Rec.good ⟨L c, L r⟩
    · rw [if_pos ⟨hk, hg⟩, decide_eq_true hg]
      obtain ⟨m, rfl⟩ : ∃ m : Nat, k = (m : Int) := ⟨k.toNat, by omega⟩
      have hn := num_len_small (show m < 1000000 by omega)
      have hb : cat (cat (cat (cat (tx (num m)) ⟨#[32]⟩) c) ⟨#[64]⟩) r = tx (body m ⟨L c, L r⟩) := by
        apply L_inj
        simp only [L_cat, L_tx, L_one]
        simp [body]
      have hbl := body_len hg (show m < 1000000 by omega)
      have ac := AppendChecksum_ev (tx (body m ⟨L c, L r⟩)) (by rw [tx_size]; omega)
      rw [L_tx, sealI_good (by omega) hg] at ac
      have hsl := seal_len (body m ⟨L c, L r⟩)
      refine Ev.step (f := fun n => (impl_decimal.f (m : Int)).bind fun t176 => (if t176.size + 1 ≤ 9223372036854775807 then (if (cat t176 (⟨#[32]⟩ : ByteArray)).size + c.size ≤ 9223372036854775807 then (if (cat (cat t176 (⟨#[32]⟩ : ByteArray)) c).size + 1 ≤ 9223372036854775807 then (if (cat (cat (cat t176 (⟨#[32]⟩ : ByteArray)) c) (⟨#[64]⟩ : ByteArray)).size + r.size ≤ 9223372036854775807 then ((impl_AppendChecksum.f n (cat (cat (cat (cat t176 (⟨#[32]⟩ : ByteArray)) c) (⟨#[64]⟩ : ByteArray)) r)).bind fun bt177 => (if bt177.1.size + 1 ≤ 9223372036854775807 then (some (cat bt177.1 (⟨#[10]⟩ : ByteArray), true)) else (none))) else (none)) else (none)) else (none)) else (none))) (fun n => ?_) ?_
      · simp only [impl_EncodeRecord.j0]
        rw [if_neg (by simp)]
      · refine Ev.bindc (decimal_eq m (by omega)) (Ev.pos (by rw [tx_size]; omega) (Ev.pos (by simp only [cat_size, tx_size, e2]; omega) (Ev.pos (by simp only [cat_size, tx_size, e2]; omega) (Ev.pos (by simp only [cat_size, tx_size, e2, e3]; omega) ?_))))
        rw [hb]
        refine Ev.bind ac (Ev.pos (by show (tx (sealed (body m ⟨L c, L r⟩))).size + 1 ≤ _; rw [tx_size]; omega) (Ev.const (congrArg some ?_)))
        have : cat (tx (sealed (body m ⟨L c, L r⟩))) ⟨#[10]⟩ = tx (line m ⟨L c, L r⟩) := by
          apply L_inj
          simp only [L_cat, L_tx, L_one]
          rfl
        rw [this]
        simp
    · rw [if_neg (fun h => hg h.2), decide_eq_false hg]
      exact bad
  · rw [if_neg (fun h => hk h.1)]
    exact Ev.neg (by simpa using hk) bad
theorem Cut_eq (s : ByteArray) (b : UInt8) (hs : s.size < 4294967281) : ∃ q, strings_Cut.f s ⟨#[b]⟩ = some (tx (upto b (L s)), tx (past b (L s)), q) := by
  refine ⟨(Lib.cut s.data.toList [b]).2.2, ?_⟩
  unfold strings_Cut.f
  rw [if_pos hs]
  have := cut_one b (L s)
  show some ((⟨(Lib.cut (L s) [b]).1.toArray⟩ : ByteArray), (⟨(Lib.cut (L s) [b]).2.1.toArray⟩ : ByteArray), (Lib.cut (L s) [b]).2.2) = _
  rw [this.1, this.2]
  rfl
theorem VerifyChecksum_ev (s : ByteArray) (hs : s.size ≤ 1000000000) :
    Ev (fun k => impl_VerifyChecksum.f k s) (if (sealI (upto 35 (L s))).2 = true ∧ (sealI (upto 35 (L s))).1 = L s then (tx (upto 35 (L s)), true) else (tx [], false)) := by
  unfold impl_VerifyChecksum.f
  obtain ⟨q, hq⟩ := Cut_eq s 35 (by omega)
  have hu := upto_len 35 (L s)
  rw [L_len] at hu
  have ac := AppendChecksum_ev (tx (upto 35 (L s))) (by rw [tx_size]; omega)
  rw [L_tx] at ac
  refine Ev.bindc hq (Ev.bind ac ?_)
  by_cases h1 : (sealI (upto 35 (L s))).2 = true
  · by_cases h2 : (sealI (upto 35 (L s))).1 = L s
    · have hr : (if (sealI (upto 35 (L s))).2 = true ∧ (sealI (upto 35 (L s))).1 = L s then (tx (upto 35 (L s)), true) else (tx [], false)) = (tx (upto 35 (L s)), true) := if_pos ⟨h1, h2⟩
      rw [hr]
      refine Ev.pos h1 (Ev.pos ?_ (Ev.const rfl))
      rw [h2]; rfl
    · have hr : (if (sealI (upto 35 (L s))).2 = true ∧ (sealI (upto 35 (L s))).1 = L s then (tx (upto 35 (L s)), true) else (tx [], false)) = (tx [], false) := if_neg fun h => h2 h.2
      rw [hr]
      refine Ev.pos h1 (Ev.neg (fun h => h2 ?_) (Ev.const rfl))
      have h' : (tx (sealI (upto 35 (L s))).1).toList = s.toList := h
      rw [toList_L, toList_L, L_tx] at h'
      exact h'
  · have hr : (if (sealI (upto 35 (L s))).2 = true ∧ (sealI (upto 35 (L s))).1 = L s then (tx (upto 35 (L s)), true) else (tx [], false)) = (tx [], false) := if_neg fun h => h1 h.1
    rw [hr]
    exact Ev.neg h1 (Ev.const rfl)
theorem past_len (b : UInt8) (l : List UInt8) : (past b l).length ≤ l.length := by
  induction l with
  | nil => simp [past]
  | cons a l ih =>
    unfold past
    split
    · simp
    · simp; omega
/-- The answer of cutRecord: the first record and its length. -/
def cutR (k : Nat) (l : List UInt8) : ByteArray × ByteArray × Int :=
  match first k l with
  | some e => (tx e.c, tx e.r, ((line k e).length : Int))
  | none => (tx [], tx [], 0)
theorem cutRecord_ev (k : Nat) (hk : k ≤ 59) (s : ByteArray) (hs : s.size ≤ 1000000000) : Ev (fun n => impl_cutRecord.f n s (k : Int)) (cutR k (L s)) := by
  unfold impl_cutRecord.f
  obtain ⟨q1, hq1⟩ := Cut_eq s 10 (by omega)
  have hu1 := upto_len 10 (L s)
  rw [L_len] at hu1
  have hu2 := upto_len 35 (upto 10 (L s))
  have vc := VerifyChecksum_ev (tx (upto 10 (L s))) (by rw [tx_size]; omega)
  rw [L_tx] at vc
  obtain ⟨bd, ok, hbd, hbl, hbd2⟩ : ∃ (bd : List UInt8) (ok : Bool), (if (sealI (upto 35 (upto 10 (L s)))).2 = true ∧ (sealI (upto 35 (upto 10 (L s)))).1 = upto 10 (L s) then (tx (upto 35 (upto 10 (L s))), true) else (tx [], false)) = (tx bd, ok) ∧ bd.length ≤ s.size ∧
      ((sealI (upto 35 (upto 10 (L s)))).2 = true ∧ (sealI (upto 35 (upto 10 (L s)))).1 = upto 10 (L s) → bd = upto 35 (upto 10 (L s))) := by
    by_cases h : (sealI (upto 35 (upto 10 (L s)))).2 = true ∧ (sealI (upto 35 (upto 10 (L s)))).1 = upto 10 (L s)
    · exact ⟨_, true, by rw [if_pos h], by omega, fun _ => rfl⟩
    · exact ⟨[], false, by rw [if_neg h], by simp, fun h' => absurd h' h⟩
  rw [hbd] at vc
  have hp1 := past_len 32 bd
  have hp2 := past_len 64 (past 32 bd)
  have hp3 := upto_len 64 (past 32 bd)
  obtain ⟨q2, hq2⟩ := Cut_eq (tx bd) 32 (by rw [tx_size]; omega)
  rw [L_tx] at hq2
  obtain ⟨q3, hq3⟩ := Cut_eq (tx (past 32 bd)) 64 (by rw [tx_size]; omega)
  rw [L_tx] at hq3
  obtain ⟨e, he⟩ : ∃ e : Rec, e = ⟨upto 64 (past 32 bd), past 64 (past 32 bd)⟩ := ⟨_, rfl⟩
  have ec : upto 64 (past 32 bd) = e.c := by rw [he]
  have er : past 64 (past 32 bd) = e.r := by rw [he]
  have en := EncodeRecord_ev (k : Int) (tx e.c) (tx e.r) (by rw [tx_size, ← ec]; omega) (by rw [tx_size, ← er]; omega)
  rw [L_tx, L_tx] at en
  rw [ec, er] at hq3
  refine Ev.bindc hq1 (Ev.bind vc (Ev.bindc hq2 (Ev.bindc hq3 ?_)))
  have bad : ∀ x, Ev (fun n => impl_cutRecord.j0 n x true (tx e.c) (tx e.r)) (tx [], tx [], 0) := fun x => Ev.last fun n => by
    simp only [impl_cutRecord.j0]
    rw [if_pos trivial]
    rfl
  by_cases hg : e.good
  · rw [if_pos ⟨⟨by omega, by omega⟩, hg⟩] at en
    refine Ev.bind en (Ev.pos rfl ?_)
    have hpre : strings_HasPrefix.f s (tx (line (k : Int).toNat ⟨e.c, e.r⟩)) = some (decide (line k e <+: L s)) := by
      unfold strings_HasPrefix.f
      refine congrArg some ?_
      show Lib.hasPrefix (L s) (L (tx (line k e))) = _
      rw [L_tx, Bool.eq_iff_iff]
      simp [Lib.hasPrefix, List.isPrefixOf_iff_prefix]
    refine Ev.bindc hpre ?_
    by_cases hl : line k e <+: L s
    · have hf : first k (L s) = some e := first_some.2 ⟨hg, hl⟩
      rw [decide_eq_true hl]
      have : cutR k (L s) = (tx e.c, tx e.r, ((line k e).length : Int)) := by unfold cutR; rw [hf]
      rw [this]
      refine Ev.last fun n => ?_
      simp only [impl_cutRecord.j0]
      rw [if_neg (by simp), tx_size]
      rfl
    · rw [decide_eq_false hl]
      have hf : first k (L s) = none := by
        refine first_none.2 fun e' he' hl' => hl ?_
        obtain ⟨t, ht⟩ := hl'
        have h1 : upto 10 (L s) = sealed (body k e') := by rw [← ht]; exact line_upto he' t
        have h2 : upto 35 (upto 10 (L s)) = body k e' := by rw [h1]; exact seal_upto (body_nin35 he')
        have h3 := hbd2 (by rw [h2, sealI_good (by omega) he', h1]; exact ⟨rfl, rfl⟩)
        rw [h2] at h3
        rw [h3, body_past, good_upto he', good_past he'] at he
        rw [he]
        exact ⟨t, ht⟩
      have : cutR k (L s) = (tx [], tx [], 0) := by unfold cutR; rw [hf]
      rw [this]
      exact bad _
  · rw [if_neg (fun h => hg h.2)] at en
    refine Ev.bind en (Ev.neg (by simp) ?_)
    have hf : first k (L s) = none := by
      refine first_none.2 fun e' he' hl' => hg ?_
      obtain ⟨t, ht⟩ := hl'
      have h1 : upto 10 (L s) = sealed (body k e') := by rw [← ht]; exact line_upto he' t
      have h2 : upto 35 (upto 10 (L s)) = body k e' := by rw [h1]; exact seal_upto (body_nin35 he')
      have h3 := hbd2 (by rw [h2, sealI_good (by omega) he', h1]; exact ⟨rfl, rfl⟩)
      rw [h2] at h3
      rw [h3, body_past, good_upto he', good_past he'] at he
      rw [he]
      exact he'
    have : cutR k (L s) = (tx [], tx [], 0) := by unfold cutR; rw [hf]
    rw [this]
    exact bad _
end Go.Proofs.YtneaeaoemhghdaaDoor.G

/- What the printed functions of the log come to: the program's log, and that it is the reference's. -/
namespace Go.Proofs.YtneaeaoemhghdaaDoor.G
open Go.RowKit Go.Proofs.YtneaeaoemhghdaaDoorW.PrintWords Go.Proofs.YtneaeaoemhghdaaDoorW.PrintLast Go.Proofs.YtneaeaoemhghdaaDoor.LogM
set_option linter.unusedVariables false
set_option linter.unusedSimpArgs false

/-- Where records end. -/
def ends : Nat → Nat → List Rec → List Int
  | _, _, [] => []
  | k, p, e :: l => ((p + (line k e).length : Nat) : Int) :: ends (k + 1) (p + (line k e).length) l
theorem ends_length (k p : Nat) (l : List Rec) : (ends k p l).length = l.length := by
  induction l generalizing k p with
  | nil => rfl
  | cons e l ih => simp [ends, ih]
theorem mem_ends {x : Int} {k p : Nat} {l : List Rec} : x ∈ ends k p l ↔ ∃ a b, l = a ++ b ∧ a ≠ [] ∧ x = ((p + (text k a).length : Nat) : Int) := by
  induction l generalizing k p with
  | nil =>
    simp only [ends, List.not_mem_nil, false_iff]
    rintro ⟨a, b, h, ha, _⟩
    exact ha (List.append_eq_nil_iff.1 h.symm).1
  | cons e l ih =>
    rw [ends, List.mem_cons, ih]
    constructor
    · rintro (rfl | ⟨a, b, rfl, ha, rfl⟩)
      · exact ⟨[e], l, rfl, by simp, by simp [text]⟩
      · exact ⟨e :: a, b, rfl, by simp, by simp only [text, List.length_append]; omega⟩
    · rintro ⟨a, b, h, ha, rfl⟩
      cases a with
      | nil => exact absurd rfl ha
      | cons e' a =>
        simp only [List.cons_append, List.cons.injEq] at h
        obtain ⟨rfl, rfl⟩ := h
        by_cases h0 : a = []
        · subst h0; left; simp [text]
        · right; exact ⟨a, b, rfl, h0, by simp only [text, List.length_append]; omega⟩
/-- The last of some ends. -/
def lastOf (x : Int) : List Int → Int
  | [] => x
  | y :: l => lastOf y l
theorem lastOf_ends (k p : Nat) (l : List Rec) : lastOf (p : Int) (ends k p l) = ((p + (text k l).length : Nat) : Int) := by
  induction l generalizing k p with
  | nil => simp [lastOf, ends, text]
  | cons e l ih => simp only [ends, lastOf, text, List.length_append, ih]; omega

theorem readLog_loop (s : ByteArray) (hs : s.size ≤ 1000000000) : ∀ (d k p : Nat) (out : List S127) (es : List Int), d + k = 60 → out.length = k → es.length = k → p ≤ s.size →
    Ev (fun n => impl_readLog.l0 n s out es (p : Int)) (out ++ (recs d k ((L s).drop p)).map toS, es ++ ends k p (recs d k ((L s).drop p))) := by
  intro d
  induction d with
  | zero =>
    intro k p out es hd ho he hp
    have hr : recs 0 k ((L s).drop p) = [] := rfl
    rw [hr]
    refine Ev.last fun n => ?_
    simp only [impl_readLog.l0]
    rw [if_neg (by omega)]
    simp [ends]
  | succ d ih =>
    intro k p out es hd ho he hp
    have hsub : subs s (p : Int).toNat s.size = tx ((L s).drop p) := by rw [subs_from]; simp
    have hdl : ((L s).drop p).length ≤ s.size := by rw [List.length_drop, L_len]; omega
    refine Ev.step (f := fun n => (impl_cutRecord.f n (subs s (p : Int).toNat s.size) (out.length : Int)).bind fun bt200 => (if bt200.2.2 = 0 then (some (out, es)) else (if out.length < 4398046511104 then (if es.length < 17592186044416 then (impl_readLog.l0 n s (out ++ [(⟨bt200.1, bt200.2.1⟩ : S127)]) (es ++ [wrap64 ((p : Int) + bt200.2.2)]) (wrap64 ((p : Int) + bt200.2.2))) else (none)) else (none)))) (fun n => ?_) ?_
    · simp only [impl_readLog.l0]
      rw [if_pos (by omega), if_pos (by omega), if_pos (by omega)]
    · rw [hsub]
      have cr := cutRecord_ev k (by omega) (tx ((L s).drop p)) (by rw [tx_size]; omega)
      rw [← ho, L_tx] at cr
      refine Ev.bind cr ?_
      rw [ho]
      cases hf : first k ((L s).drop p) with
      | none =>
        have h0 : cutR k ((L s).drop p) = (tx [], tx [], 0) := by unfold cutR; rw [hf]
        rw [h0]
        refine Ev.pos rfl (Ev.const ?_)
        rw [recs_none hf]
        simp [ends]
      | some e =>
        have h0 : cutR k ((L s).drop p) = (tx e.c, tx e.r, ((line k e).length : Int)) := by unfold cutR; rw [hf]
        have hl := line_pos k e
        have hle : (line k e).length ≤ s.size - p := by
          have := (first_some.1 hf).2.length_le
          rw [List.length_drop, L_len] at this
          exact this
        rw [h0]
        refine Ev.neg (by show ¬ ((line k e).length : Int) = 0; omega) (Ev.pos (by omega) (Ev.pos (by omega) ?_))
        show Ev (fun n => impl_readLog.l0 n s (out ++ [(⟨tx e.c, tx e.r⟩ : S127)]) (es ++ [wrap64 ((p : Int) + ((line k e).length : Int))]) (wrap64 ((p : Int) + ((line k e).length : Int)))) _
        rw [w64 (by omega) (by omega)]
        have := ih (k + 1) (p + (line k e).length) (out ++ [toS e]) (es ++ [((p + (line k e).length : Nat) : Int)]) (by omega) (by simp [ho]) (by simp [he]) (by omega)
        rw [← List.drop_drop] at this
        rw [recs_some hf, List.map_cons, ends]
        have e1 : (p : Int) + ((line k e).length : Int) = ((p + (line k e).length : Nat) : Int) := by omega
        rw [e1]
        have e3 : ∀ (Y : List S127), out ++ toS e :: Y = (out ++ [toS e]) ++ Y := by simp
        have e4 : ∀ (x : Int) (Y : List Int), es ++ x :: Y = (es ++ [x]) ++ Y := by simp
        rw [e3, e4 _ (ends _ _ _)]
        exact this
theorem readLog_ev (s : ByteArray) (hs : s.size ≤ 1000000000) : Ev (fun n => impl_readLog.f n s) ((all (L s)).map toS, ends 0 0 (all (L s))) := by
  have := readLog_loop s hs 60 0 0 [] [] rfl rfl rfl (by omega)
  simpa [impl_readLog.f, all] using this
theorem records_loop (rs : List S127) (es : List Int) (D P : ByteArray) (n : Int) (hes : es.length ≤ 60) (hD : D.size ≤ 1000000000) (hP : P.size ≤ 1000000000) : ∀ (d i : Nat) (x : Int) (b : Bool), i + d = es.length →
    Ev (fun k => impl_Log_records.l0 k rs x b es (es.length : Int) (i : Int) D P n)
      (rs, decide ((b = true ∨ (D.size : Int) ∈ es.drop i) ∧ lastOf x (es.drop i) = ((D.size + P.size : Nat) : Int) ∧ n = (rs.length : Int))) := by
  intro d
  induction d with
  | zero =>
    intro i x b hi
    have hd : es.drop i = [] := List.drop_eq_nil_of_le (by omega)
    rw [hd]
    refine Ev.last fun k => ?_
    simp only [impl_Log_records.l0]
    rw [if_neg (by omega), w64 (by omega) (by omega)]
    simp only [lastOf, List.not_mem_nil, or_false]
    by_cases hb : b = true
    · rw [if_pos hb]
      by_cases hx : x = ((D.size : Int) + (P.size : Int))
      · rw [if_pos hx]
        have : x = ((D.size + P.size : Nat) : Int) := by omega
        simp only [hb, this, true_and]
        have e : (n == (rs.length : Int)) = decide (n = (rs.length : Int)) := by rw [Bool.eq_iff_iff]; simp
        rw [e]
      · rw [if_neg hx, decide_eq_false (fun h => hx (by have := h.2.1; omega))]
    · rw [if_neg hb, decide_eq_false (fun h => hb h.1)]
  | succ d ih =>
    intro i x b hi
    have hlt : i < es.length := by omega
    have hdr : es.drop i = es[i] :: es.drop (i + 1) := List.drop_eq_getElem_cons hlt
    have hrd : rd es (i : Int) = es[i] := by
      unfold rd
      rw [Int.toNat_natCast, List.getD_eq_getElem?_getD, List.getElem?_eq_getElem hlt]; rfl
    have e1 : wrap64 ((i : Int) + 1) = ((i + 1 : Nat) : Int) := by rw [w64 (by omega) (by omega)]; omega
    by_cases hb : b = true
    · refine Ev.step (f := fun k => impl_Log_records.l0 k rs es[i] true es (es.length : Int) ((i + 1 : Nat) : Int) D P n) (fun k => ?_) ?_
      · simp only [impl_Log_records.l0]
        rw [if_pos (by omega), if_pos (by omega), if_pos (by omega), if_pos hb, hrd, e1]
      · have := ih (i + 1) es[i] true (by omega)
        rw [hdr, lastOf]
        have e : (decide ((b = true ∨ (D.size : Int) ∈ es[i] :: es.drop (i + 1)) ∧ lastOf es[i] (es.drop (i + 1)) = ((D.size + P.size : Nat) : Int) ∧ n = (rs.length : Int))) = decide ((true = true ∨ (D.size : Int) ∈ es.drop (i + 1)) ∧ lastOf es[i] (es.drop (i + 1)) = ((D.size + P.size : Nat) : Int) ∧ n = (rs.length : Int)) := by
          rw [decide_eq_decide]
          simp [hb]
        rw [e]
        exact this
    · refine Ev.step (f := fun k => impl_Log_records.l0 k rs es[i] (es[i] == (D.size : Int)) es (es.length : Int) ((i + 1 : Nat) : Int) D P n) (fun k => ?_) ?_
      · simp only [impl_Log_records.l0]
        rw [if_pos (by omega), if_pos (by omega), if_pos (by omega), if_neg hb, hrd, e1]
      · have := ih (i + 1) es[i] (es[i] == (D.size : Int)) (by omega)
        rw [hdr, lastOf]
        have e : (decide ((b = true ∨ (D.size : Int) ∈ es[i] :: es.drop (i + 1)) ∧ lastOf es[i] (es.drop (i + 1)) = ((D.size + P.size : Nat) : Int) ∧ n = (rs.length : Int))) = decide (((es[i] == (D.size : Int)) = true ∨ (D.size : Int) ∈ es.drop (i + 1)) ∧ lastOf es[i] (es.drop (i + 1)) = ((D.size + P.size : Nat) : Int) ∧ n = (rs.length : Int)) := by
          rw [decide_eq_decide, List.mem_cons]
          have c : ((D.size : Int) = es[i]) ↔ ((es[i] == (D.size : Int)) = true) := ⟨fun h => by rw [h]; exact beq_self_eq_true _, fun h => (beq_iff_eq.1 h).symm⟩
          simp only [hb, c, false_or, Bool.false_eq_true]
        rw [e]
        exact this
/-- Some end lies at the durable part's end just if that part is whole records. -/
theorem durable_iff (D P : List UInt8) : (D = [] ∨ ((D.length : Nat) : Int) ∈ ends 0 0 (all (D ++ P))) ↔ endOf D = D.length := by
  constructor
  · intro h
    obtain ⟨l, m, hlm, hl⟩ : ∃ l m, all (D ++ P) = l ++ m ∧ (text 0 l).length = D.length := by
      rcases h with rfl | h
      · exact ⟨[], _, rfl, rfl⟩
      · obtain ⟨a, b, h1, _, h2⟩ := mem_ends.1 h
        exact ⟨a, b, h1, by omega⟩
    have hp : text 0 (l ++ m) <+: D ++ P := by
      rw [← hlm]; exact recs_prefix 60 0 (D ++ P)
    have hp' : text 0 l <+: D ++ P := by
      rw [text_append] at hp
      exact (List.prefix_append _ _).trans hp
    have hD : text 0 l = D := by
      have h1 := List.prefix_iff_eq_take.1 hp'
      rw [hl, List.take_left] at h1
      exact h1
    have hg : ∀ e ∈ l, e.good := fun e he => all_good (D ++ P) e (by rw [hlm]; exact List.mem_append_left _ he)
    have hn : l.length ≤ 60 := by
      have := all_length (D ++ P)
      rw [hlm, List.length_append] at this
      omega
    have := endOf_text l hg hn
    rw [hD] at this
    exact this
  · intro h
    have hD := whole_text h
    have hx : all (D ++ P) = all D ++ recs (60 - (all D).length) (0 + (all D).length) P := by
      have := recs_of (all D) (all_good D) 60 0 P (all_length D)
      rw [hD] at this
      exact this
    by_cases h0 : all D = []
    · left
      rw [h0] at hD
      exact hD.symm
    · right
      rw [hx, mem_ends]
      refine ⟨_, _, rfl, h0, ?_⟩
      rw [hD]; omega
/-- What records answers. -/
theorem Log_records_ev (D P : ByteArray) (n : Int) (hD : D.size ≤ 140737488351232) (hP : P.size ≤ 140737488351232) :
    ∃ rs, Ev (fun k => impl_Log_records.f k D P n) (rs, decide (vlog (L D) (L P) n)) ∧ (vlog (L D) (L P) n → rs = (all (L D ++ L P)).map toS) := by
  unfold impl_Log_records.f
  have hw : wrap64 ((D.size : Int) + (P.size : Int)) = (D.size : Int) + (P.size : Int) := w64 (by omega) (by omega)
  by_cases hb : D.size + P.size ≤ 30000
  · refine ⟨(all (L D ++ L P)).map toS, ?_, fun _ => rfl⟩
    refine Ev.neg (by rw [hw]; omega) (Ev.pos (by omega) ?_)
    have r := readLog_ev (cat D P) (by rw [cat_size]; omega)
    rw [L_cat] at r
    refine Ev.bind r ?_
    have hle : (ends 0 0 (all (L D ++ L P))).length ≤ 60 := by rw [ends_length]; exact all_length _
    have l := records_loop ((all (L D ++ L P)).map toS) (ends 0 0 (all (L D ++ L P))) D P n hle (by omega) (by omega) _ 0 0 (D.toList == ([] : List UInt8)) (Nat.zero_add _)
    have e : decide (((D.toList == ([] : List UInt8)) = true ∨ (D.size : Int) ∈ (ends 0 0 (all (L D ++ L P))).drop 0) ∧ lastOf 0 ((ends 0 0 (all (L D ++ L P))).drop 0) = ((D.size + P.size : Nat) : Int) ∧ n = (((all (L D ++ L P)).map toS).length : Int)) = decide (vlog (L D) (L P) n) := by
      rw [decide_eq_decide, List.drop_zero, toList_L]
      have h1 := durable_iff (L D) (L P)
      have h2 := lastOf_ends 0 0 (all (L D ++ L P))
      rw [L_len] at h1
      have h3 : lastOf 0 (ends 0 0 (all (L D ++ L P))) = (endOf (L D ++ L P) : Int) := by
        rw [Nat.zero_add] at h2
        exact h2
      rw [h3, List.length_map]
      simp only [beq_iff_eq]
      rw [h1]
      unfold vlog
      rw [L_len, L_len]
      constructor
      · rintro ⟨a, b, c⟩; exact ⟨hb, by omega, a, c.symm⟩
      · rintro ⟨_, a, b, c⟩; exact ⟨b, by omega, c.symm⟩
    rw [e] at l
    exact l
  · refine ⟨[], Ev.pos (by rw [hw]; omega) (Ev.const ?_), fun h => absurd h.1 hb⟩
    rw [decide_eq_false (fun h => hb h.1)]
theorem IsValidLogI_ev (D P : ByteArray) (n : Int) (hD : D.size ≤ 140737488351232) (hP : P.size ≤ 140737488351232) : Ev (fun k => impl_IsValidLog.f k D P n) (decide (vlog (L D) (L P) n)) := by
  obtain ⟨rs, h, _⟩ := Log_records_ev D P n hD hP
  exact Ev.bind h (Ev.const rfl)
end Go.Proofs.YtneaeaoemhghdaaDoor.G

/- What the printed functions of the workshop come to: which shops are valid, on both sides. -/
namespace Go.Proofs.YtneaeaoemhghdaaDoor.G
open Go.RowKit Go.Proofs.YtneaeaoemhghdaaDoorW.PrintWords Go.Proofs.YtneaeaoemhghdaaDoorW.PrintLast Go.Proofs.YtneaeaoemhghdaaDoor.LogM Go.Proofs.YtneaeaoemhghdaaDoor.ShopM
set_option linter.unusedVariables false
set_option linter.unusedSimpArgs false

def cp (x : S62) : Cp := ⟨x.f0, x.f1, x.f2, x.f3, x.f4⟩
def cps (l : List S62) : List Cp := l.map cp
theorem cps_len (l : List S62) : (cps l).length = l.length := List.length_map ..
theorem cps_at {l : List S62} {i : Nat} (h : i < (cps l).length) : (cps l)[i] = cp (l[i]'(by rw [cps_len] at h; exact h)) := List.getElem_map cp
theorem rdC {l : List S62} {i : Nat} (h : i < l.length) : rd_T62 l (i : Int) = l[i] := by
  unfold rd_T62
  rw [Int.toNat_natCast, List.getD_eq_getElem?_getD, List.getElem?_eq_getElem h]; rfl
theorem vC_of {D L r m s lo si : Int} (h1 : 1 ≤ r ∧ r ≤ 500) (h2 : 0 ≤ m ∧ m ≤ r) (h3 : 0 ≤ s ∧ s ≤ 4) (h4 : 0 ≤ si ∧ si ≤ D) :
    vC D L ⟨r, m, s, lo, si⟩ ↔ (if s = 0 then m = 0 ∧ lo = 0 else if s = 1 then 1 ≤ lo ∧ lo ≤ L else m = r ∧ lo = 0) := ⟨fun h => h.2.2.2.2, fun h => ⟨h1, h2, h3, h4, h⟩⟩
theorem l25Carpet_ev (D L M r m s lo si : Int) (l : List S62) : Ev (fun k => spec_l25Carpet.f k D L l M r m s lo si) (decide (vC D L ⟨r, m, s, lo, si⟩)) := by
  unfold spec_l25Carpet.f
  have bad : ¬ vC D L ⟨r, m, s, lo, si⟩ → Ev (fun k => spec_l25Carpet.j0 k true D L l M r m s lo si) (decide (vC D L ⟨r, m, s, lo, si⟩)) := fun h => Ev.last fun k => by
    simp only [spec_l25Carpet.j0]
    rw [decide_eq_false h, if_pos trivial]
  refine Ev.bindc (l1In_eq _ _ _) ?_
  by_cases h1 : 1 ≤ r ∧ r ≤ 500
  · refine Ev.pos (decide_eq_true h1) (Ev.bindc (l1In_eq _ _ _) ?_)
    by_cases h2 : 0 ≤ m ∧ m ≤ r
    · refine Ev.pos (decide_eq_true h2) (Ev.bindc (l1In_eq _ _ _) ?_)
      by_cases h3 : 0 ≤ s ∧ s ≤ 4
      · refine Ev.pos (decide_eq_true h3) (Ev.bindc (l1In_eq _ _ _) ?_)
        by_cases h4 : 0 ≤ si ∧ si ≤ D
        · refine Ev.last fun k => ?_
          simp only [spec_l25Carpet.j0]
          rw [decide_eq_true h4, if_neg (by simp)]
          have e := vC_of (L := L) (lo := lo) h1 h2 h3 h4
          by_cases s1 : s = 1
          · rw [if_pos s1, l1In_eq]
            simp only [Option.bind_some]
            rw [if_neg (by omega), if_pos s1] at e
            exact congrArg some (decide_eq_decide.2 e.symm)
          · rw [if_neg s1]
            by_cases s0 : s = 0
            · rw [if_pos s0] at e ⊢
              by_cases hl : lo = 0
              · rw [if_pos hl]
                refine congrArg some ?_
                rw [Bool.eq_iff_iff, beq_iff_eq, decide_eq_true_iff, e]
                simp [hl]
              · rw [if_neg hl, decide_eq_false (fun x => hl (e.1 x).2)]
            · rw [if_neg s0] at e ⊢
              rw [if_neg s1] at e
              by_cases hl : lo = 0
              · rw [if_pos hl]
                refine congrArg some ?_
                rw [Bool.eq_iff_iff, beq_iff_eq, decide_eq_true_iff, e]
                simp [hl]
              · rw [if_neg hl, decide_eq_false (fun x => hl (e.1 x).2)]
        · have := bad (fun x => h4 x.2.2.2.1)
          simp only [decide_eq_false h4]
          exact this
      · exact Ev.neg (by simpa using h3) (bad fun x => h3 x.2.2.1)
    · exact Ev.neg (by simpa using h2) (bad fun x => h2 x.2.1)
  · exact Ev.neg (by simpa using h1) (bad fun x => h1 x.1)
theorem isCarpet_ev (D L M r m s lo si : Int) (l : List S62) : Ev (fun k => impl_Shop_isCarpet.f k D L l M r m s lo si) (decide (vC D L ⟨r, m, s, lo, si⟩)) := by
  unfold impl_Shop_isCarpet.f
  have bad : ¬ vC D L ⟨r, m, s, lo, si⟩ → Ev (fun k => impl_Shop_isCarpet.j0 k true D L l M r m s lo si) (decide (vC D L ⟨r, m, s, lo, si⟩)) := fun h => Ev.last fun k => by
    simp only [impl_Shop_isCarpet.j0]
    rw [decide_eq_false h, if_pos trivial]
  refine Ev.bindc (in_eq _ _ _) ?_
  by_cases h1 : 1 ≤ r ∧ r ≤ 500
  · refine Ev.pos (decide_eq_true h1) (Ev.bindc (in_eq _ _ _) ?_)
    by_cases h2 : 0 ≤ m ∧ m ≤ r
    · refine Ev.pos (decide_eq_true h2) (Ev.bindc (in_eq _ _ _) ?_)
      by_cases h3 : 0 ≤ s ∧ s ≤ 4
      · refine Ev.pos (decide_eq_true h3) (Ev.bindc (in_eq _ _ _) ?_)
        by_cases h4 : 0 ≤ si ∧ si ≤ D
        · refine Ev.last fun k => ?_
          simp only [impl_Shop_isCarpet.j0]
          rw [decide_eq_true h4, if_neg (by simp)]
          have e := vC_of (L := L) (lo := lo) h1 h2 h3 h4
          by_cases s0 : s = 0
          · rw [if_pos s0] at e ⊢
            by_cases hm : m = 0
            · rw [if_pos hm]
              refine congrArg some ?_
              rw [Bool.eq_iff_iff, beq_iff_eq, decide_eq_true_iff, e]
              simp [hm]
            · rw [if_neg hm, decide_eq_false (fun x => hm (e.1 x).1)]
          · rw [if_neg s0] at e ⊢
            by_cases s1 : s = 1
            · rw [if_pos s1] at e ⊢
              rw [in_eq]
              simp only [Option.bind_some]
              exact congrArg some (decide_eq_decide.2 e.symm)
            · rw [if_neg s1] at e ⊢
              by_cases hm : m = r
              · rw [if_pos hm]
                refine congrArg some ?_
                rw [Bool.eq_iff_iff, beq_iff_eq, decide_eq_true_iff, e]
                simp [hm]
              · rw [if_neg hm, decide_eq_false (fun x => hm (e.1 x).1)]
        · have := bad (fun x => h4 x.2.2.2.1)
          simp only [decide_eq_false h4]
          exact this
      · exact Ev.neg (by simpa using h3) (bad fun x => h3 x.2.2.1)
    · exact Ev.neg (by simpa using h2) (bad fun x => h2 x.2.1)
  · exact Ev.neg (by simpa using h1) (bad fun x => h1 x.1)

/-! ### The reference's loops -/
/-- No carpet from k to i stands on carpet i's loom. -/
def free (l : List Cp) (i k : Nat) : Prop := ∀ j, k ≤ j → j < i → ∀ (hi : i < l.length) (hj : j < l.length), 0 < l[i].loom → l[j].loom ≠ l[i].loom
theorem free_end (l : List Cp) (i : Nat) : free l i i := fun j h1 h2 => by omega
theorem free_iff {D L : Int} {l : List Cp} {n : Nat} (hn : n < l.length) : okTo D L l (n + 1) ↔ okTo D L l n ∧ vC D L l[n] ∧ free l n 0 := by
  rw [okTo_succ hn]
  constructor
  · rintro ⟨a, b, c⟩; exact ⟨a, b, fun j _ hj _ _ hp => c j hj hp⟩
  · rintro ⟨a, b, c⟩; exact ⟨a, b, fun j hj hp => c j (Nat.zero_le _) hj hn (by omega) hp⟩
open Classical in
theorem l25Good_loops (D L M : Int) (l : List S62) (hl : l.length ≤ 8) : ∀ d i : Nat, i + d = l.length → okTo D L (cps l) i → Ev (fun n => spec_l25Good.l0 n (i : Int) D L l M) (decide (okTo D L (cps l) l.length)) := by
  intro d
  induction d with
  | zero =>
    intro i hi hok
    have e : i = l.length := by omega
    subst e
    rw [decide_eq_true hok]
    refine Ev.last fun k => ?_
    simp only [spec_l25Good.l0]
    rw [if_neg (by omega)]
  | succ d ih =>
    intro i hi hok
    have hlt : i < l.length := by omega
    have hltc : i < (cps l).length := by rw [cps_len]; exact hlt
    have ec : (cps l)[i] = cp l[i] := cps_at hltc
    have eb := l25Carpet_ev D L M (l[i]).f0 (l[i]).f1 (l[i]).f2 (l[i]).f3 (l[i]).f4 l
    have hinner : ∀ d2 k : Nat, k + d2 = i → free (cps l) i 0 = (free (cps l) i k) → vC D L (cps l)[i] → Ev (fun n => spec_l25Good.l1 n (i : Int) (k : Int) D L l M) (decide (okTo D L (cps l) l.length)) := by
      intro d2
      induction d2 with
      | zero =>
        intro k hk hf hv
        have ek : k = i := by omega
        subst ek
        refine Ev.step (f := fun n => spec_l25Good.l0 n ((k + 1 : Nat) : Int) D L l M) (fun n => ?_) (ih (k + 1) (by omega) ((free_iff hltc).2 ⟨hok, hv, by rw [hf]; exact free_end _ _⟩))
        simp only [spec_l25Good.l1]
        rw [if_neg (by omega), w64 (by omega) (by omega)]
        rfl
      | succ d2 ih2 =>
        intro k hk hf hv
        have hkl : k < l.length := by omega
        have hklc : k < (cps l).length := by rw [cps_len]; exact hkl
        by_cases hp : (l[i]).f3 > 0
        · by_cases he : (l[k]).f3 = (l[i]).f3
          · refine Ev.last fun n => ?_
            simp only [spec_l25Good.l1]
            rw [if_pos (by omega), if_pos (by omega), if_pos (by omega), rdC hlt, if_pos hp, if_pos (by omega), if_pos (by omega), rdC hkl, if_pos he]
            have : ¬ okTo D L (cps l) l.length := fun x => by
              have := ((free_iff hltc).1 (okTo_mono x (by omega))).2.2 k (Nat.zero_le _) (by omega) hltc hklc
              rw [ec, cps_at hklc] at this
              exact this hp he
            rw [decide_eq_false this]
          · refine Ev.step (f := fun n => spec_l25Good.l1 n (i : Int) ((k + 1 : Nat) : Int) D L l M) (fun n => ?_) (ih2 (k + 1) (by omega) ?_ hv)
            · simp only [spec_l25Good.l1]
              rw [if_pos (by omega), if_pos (by omega), if_pos (by omega), rdC hlt, if_pos hp, if_pos (by omega), if_pos (by omega), rdC hkl, if_neg he, w64 (by omega) (by omega)]
              rfl
            · rw [hf]
              refine propext ⟨fun x j h1 h2 => x j (by omega) h2, fun x j h1 h2 hi hj hq => ?_⟩
              by_cases ej : j = k
              · subst ej
                rw [cps_at hj, cps_at hi]
                exact he
              · exact x j (by omega) h2 hi hj hq
        · refine Ev.step (f := fun n => spec_l25Good.l1 n (i : Int) ((k + 1 : Nat) : Int) D L l M) (fun n => ?_) (ih2 (k + 1) (by omega) ?_ hv)
          · simp only [spec_l25Good.l1]
            rw [if_pos (by omega), if_pos (by omega), if_pos (by omega), rdC hlt, if_neg hp, w64 (by omega) (by omega)]
            rfl
          · rw [hf]
            refine propext ⟨fun x j h1 h2 => x j (by omega) h2, fun x j h1 h2 hi hj hq => ?_⟩
            rw [cps_at hi] at hq
            exact absurd hq hp
    by_cases hv : vC D L (cps l)[i]
    · refine Ev.step (f := fun n => (spec_l25Carpet.f n D L l M (l[i]).f0 (l[i]).f1 (l[i]).f2 (l[i]).f3 (l[i]).f4).bind fun t => (if t = true then (spec_l25Good.l1 n (i : Int) 0 D L l M) else (some false))) (fun n => ?_) (Ev.bind eb (Ev.pos ?_ (hinner i 0 (by omega) rfl hv)))
      · simp only [spec_l25Good.l0]
        rw [if_pos (by omega), if_pos (by omega), rdC hlt]
      · rw [ec] at hv
        exact decide_eq_true hv
    · have hn : ¬ okTo D L (cps l) l.length := fun x => hv ((free_iff hltc).1 (okTo_mono x (by omega))).2.1
      rw [decide_eq_false hn]
      refine Ev.step (f := fun n => (spec_l25Carpet.f n D L l M (l[i]).f0 (l[i]).f1 (l[i]).f2 (l[i]).f3 (l[i]).f4).bind fun t => (if t = true then (spec_l25Good.l1 n (i : Int) 0 D L l M) else (some false))) (fun n => ?_) (Ev.bind eb (Ev.neg ?_ (Ev.const rfl)))
      · simp only [spec_l25Good.l0]
        rw [if_pos (by omega), if_pos (by omega), rdC hlt]
      · rw [ec] at hv
        exact fun x => hv (of_decide_eq_true x)
open Classical in
theorem l25Good_ev (D L M : Int) (l : List S62) : Ev (fun n => spec_l25Good.f n D L l M) (decide (vShop D L (cps l) M)) := by
  unfold spec_l25Good.f
  have bad : ¬ vShop D L (cps l) M → Ev (fun n => spec_l25Good.j0 n true D L l M) (decide (vShop D L (cps l) M)) := fun h => Ev.last fun k => by
    simp only [spec_l25Good.j0]
    rw [decide_eq_false h, if_pos trivial]
  have hday : spec_l2Day.f D = some (decide (0 ≤ D ∧ D ≤ 4000)) := by unfold spec_l2Day.f; rw [l1In_eq]; rfl
  refine Ev.bindc hday ?_
  by_cases h1 : 0 ≤ D ∧ D ≤ 4000
  · refine Ev.pos (decide_eq_true h1) (Ev.bindc (l1In_eq _ _ _) ?_)
    by_cases h2 : 1 ≤ L ∧ L ≤ 4
    · refine Ev.pos (decide_eq_true h2) (Ev.bindc (l1In_eq _ _ _) ?_)
      by_cases h3 : 0 ≤ M ∧ M ≤ 1000000
      · refine Ev.pos (decide_eq_true h3) ?_
        by_cases h4 : l.length ≤ 8
        · have e : vShop D L (cps l) M ↔ okTo D L (cps l) l.length := ⟨fun x => by rw [← cps_len]; exact x.2.2.2.2, fun x => ⟨h1, h2, by rw [cps_len]; exact h4, h3, by rw [cps_len]; exact x⟩⟩
          rw [decide_eq_decide.2 e, decide_eq_false (show ¬ (l.length : Int) > 8 by omega)]
          refine Ev.step (f := fun n => spec_l25Good.l0 n 0 D L l M) (fun n => ?_) (l25Good_loops D L M l h4 l.length 0 (by omega) (okTo_zero _ _ _))
          simp only [spec_l25Good.j0]
          rw [if_neg (by simp)]
        · rw [decide_eq_true (show (l.length : Int) > 8 by omega)]
          exact bad fun x => h4 (by have := x.2.2.1; rw [cps_len] at this; exact this)
      · exact Ev.neg (by simpa using h3) (bad fun x => h3 x.2.2.2.1)
    · exact Ev.neg (by simpa using h2) (bad fun x => h2 x.2.1)
  · exact Ev.neg (by simpa using h1) (bad fun x => h1 x.1)

/-! ### The program's loop -/
theorem idx_from {α : Type} (p : α → Bool) (d : α) : ∀ (l : List α) (i : Nat), Lib.idxByFrom (fun _ y => p y) d l i = match l.findIdx? p with | some j => ((i + j : Nat) : Int) | none => -1 := by
  intro l
  induction l with
  | nil => intro i; rfl
  | cons a l ih =>
    intro i
    simp only [Lib.idxByFrom, List.findIdx?_cons]
    by_cases h : p a = true
    · rw [if_pos h, if_pos h]; rfl
    · rw [if_neg h, if_neg h, ih]
      cases l.findIdx? p with
      | none => rfl
      | some j => show ((i + 1 + j : Nat) : Int) = ((i + (j + 1) : Nat) : Int); omega
theorem onLoom_eq (D L M a : Int) (l : List S62) : impl_Shop_onLoom.f D L l M a = some (onLoom (cps l) a) := by
  unfold impl_Shop_onLoom.f onLoom
  refine congrArg some ?_
  unfold Lib.idxBy
  rw [idx_from]
  have : (cps l).findIdx? (fun c => c.state == 1 && c.loom == a) = l.findIdx? (fun y => y.f2 == 1 && y.f3 == a) := by
    unfold cps
    rw [List.findIdx?_map]
    rfl
  rw [this]
  cases l.findIdx? (fun y => y.f2 == 1 && y.f3 == a) with
  | none => rfl
  | some j => show ((0 + j : Nat) : Int) = (j : Int); omega
open Classical in
theorem IsShop_loop (D L M : Int) (l : List S62) (hl : l.length ≤ 8) : ∀ d i : Nat, i + d = l.length → okTo D L (cps l) i → Ev (fun n => impl_IsShop.l0 n l (l.length : Int) (i : Int) D L l M) (decide (okTo D L (cps l) l.length)) := by
  intro d
  induction d with
  | zero =>
    intro i hi hok
    have e : i = l.length := by omega
    subst e
    rw [decide_eq_true hok]
    refine Ev.last fun k => ?_
    simp only [impl_IsShop.l0]
    rw [if_neg (by omega)]
  | succ d ih =>
    intro i hi hok
    have hlt : i < l.length := by omega
    have hltc : i < (cps l).length := by rw [cps_len]; exact hlt
    have ec : (cps l)[i] = cp l[i] := cps_at hltc
    have eb := isCarpet_ev D L M (l[i]).f0 (l[i]).f1 (l[i]).f2 (l[i]).f3 (l[i]).f4 l
    refine Ev.step (f := fun n => (impl_Shop_isCarpet.f n D L l M (l[i]).f0 (l[i]).f1 (l[i]).f2 (l[i]).f3 (l[i]).f4).bind fun t => (if t = true then (if (l[i]).f2 = 1 then ((impl_Shop_onLoom.f D L l M (l[i]).f3).bind fun t234 => (if t234 = (i : Int) then (impl_IsShop.l0 n l (l.length : Int) (wrap64 ((i : Int) + 1)) D L l M) else (some false))) else (impl_IsShop.l0 n l (l.length : Int) (wrap64 ((i : Int) + 1)) D L l M)) else (some false))) (fun n => ?_) (Ev.bind eb ?_)
    · simp only [impl_IsShop.l0]
      rw [if_pos (by omega), if_pos (by omega), if_pos (by omega), rdC hlt]
    · have ew : wrap64 ((i : Int) + 1) = ((i + 1 : Nat) : Int) := by rw [w64 (by omega) (by omega)]; rfl
      rw [ew]
      by_cases hv : vC D L (cps l)[i]
      · have hv' := hv
        rw [ec] at hv'
        refine Ev.pos (decide_eq_true hv') ?_
        by_cases hs : (l[i]).f2 = 1
        · refine Ev.pos hs (Ev.bindc (onLoom_eq D L M _ l) ?_)
          have hone : onLoom (cps l) (l[i]).f3 = (i : Int) ↔ free (cps l) i 0 := by
            have h1 : ((cps l)[i]).state = 1 := by rw [ec]; exact hs
            have := onLoom_first hltc hok hv h1
            rw [ec] at this
            rw [show (l[i]).f3 = (cp l[i]).loom from rfl, this]
            constructor
            · intro x j _ hj hi' hj' hp
              rw [cps_at hi'] at hp ⊢
              exact x j hj hp
            · intro x k hk hp
              have := x k (Nat.zero_le _) hk hltc (by omega)
              rw [ec] at this
              exact this hp
          by_cases hf : free (cps l) i 0
          · exact Ev.pos (hone.2 hf) (ih (i + 1) (by omega) ((free_iff hltc).2 ⟨hok, hv, hf⟩))
          · have hn : ¬ okTo D L (cps l) l.length := fun x => hf ((free_iff hltc).1 (okTo_mono x (by omega))).2.2
            rw [decide_eq_false hn]
            exact Ev.neg (fun x => hf (hone.1 x)) (Ev.const rfl)
        · refine Ev.neg hs (ih (i + 1) (by omega) ((free_iff hltc).2 ⟨hok, hv, ?_⟩))
          intro j _ hj hi' hj' hp
          exact absurd ((vC_loom hv).1 hp) (by rw [ec]; exact hs)
      · have hn : ¬ okTo D L (cps l) l.length := fun x => hv ((free_iff hltc).1 (okTo_mono x (by omega))).2.1
        rw [decide_eq_false hn]
        rw [ec] at hv
        exact Ev.neg (fun x => hv (of_decide_eq_true x)) (Ev.const rfl)
open Classical in
theorem IsShop_ev (D L M : Int) (l : List S62) (hln : l.length ≤ 140737488351232) : Ev (fun n => impl_IsShop.f n D L l M) (decide (vShop D L (cps l) M)) := by
  unfold impl_IsShop.f
  have bad : ¬ vShop D L (cps l) M → Ev (fun n => impl_IsShop.j0 n true D L l M) (decide (vShop D L (cps l) M)) := fun h => Ev.last fun k => by
    simp only [impl_IsShop.j0]
    rw [decide_eq_false h, if_pos trivial]
  have hday : impl_isDay.f D = some (decide (0 ≤ D ∧ D ≤ 4000)) := by unfold impl_isDay.f; rw [in_eq]; rfl
  refine Ev.bindc hday ?_
  by_cases h1 : 0 ≤ D ∧ D ≤ 4000
  · refine Ev.pos (decide_eq_true h1) (Ev.bindc (in_eq _ _ _) ?_)
    by_cases h2 : 1 ≤ L ∧ L ≤ 4
    · refine Ev.pos (decide_eq_true h2) ?_
      by_cases h4 : l.length ≤ 8
      · refine Ev.neg (by omega) (Ev.bindc (in_eq _ _ _) ?_)
        by_cases h3 : 0 ≤ M ∧ M ≤ 1000000
        · have e : vShop D L (cps l) M ↔ okTo D L (cps l) l.length := ⟨fun x => by rw [← cps_len]; exact x.2.2.2.2, fun x => ⟨h1, h2, by rw [cps_len]; exact h4, h3, by rw [cps_len]; exact x⟩⟩
          rw [decide_eq_decide.2 e, decide_eq_true h3]
          refine Ev.step (f := fun n => impl_IsShop.l0 n l (l.length : Int) 0 D L l M) (fun n => ?_) (IsShop_loop D L M l h4 l.length 0 (by omega) (okTo_zero _ _ _))
          simp only [impl_IsShop.j0]
          rw [if_neg (by simp)]
        · have := bad (fun x => h3 x.2.2.2.1)
          simp only [decide_eq_false h3]
          exact this
      · exact Ev.pos (by omega) (bad fun x => h4 (by have := x.2.2.1; rw [cps_len] at this; exact this))
    · exact Ev.neg (by simpa using h2) (bad fun x => h2 x.2.1)
  · exact Ev.neg (by simpa using h1) (bad fun x => h1 x.1)
end Go.Proofs.YtneaeaoemhghdaaDoor.G

/- The law of IsValidConsole, in plain Lean: the printed function of the law answers true. -/
namespace Go.Proofs.YtneaeaoemhghdaaDoor.G
open Go.RowKit Go.Proofs.YtneaeaoemhghdaaDoorW.PrintWords Go.Proofs.YtneaeaoemhghdaaDoorW.PrintLast Go.Proofs.YtneaeaoemhghdaaDoor.LogM Go.Proofs.YtneaeaoemhghdaaDoor.ShopM
set_option linter.unusedVariables false
set_option linter.unusedSimpArgs false

/-- A text's bytes (the name L is taken by the looms). -/
abbrev LogOf (s : ByteArray) : List UInt8 := L s
theorem szShop_le {D L M m r : Int} {l : List S115} (hl : l.length ≤ 9223372036854775807) (h0 : 0 ≤ m) (h1 : m ≤ 1048576) (h : laws_szShop.f D L l M m = some r) (hr : ¬ r < 0) : (l.length : Int) ≤ m ∧ r ≤ m ∧ 0 ≤ r := by
  unfold laws_szShop.f laws_szCarpetS.f at h
  have e : wrap64 (m - (l.length : Int)) = m - (l.length : Int) := w64 (by omega) (by omega)
  rw [e] at h
  by_cases hc : m - (l.length : Int) < 0
  · rw [if_pos hc] at h
    simp at h
    omega
  · rw [if_neg hc] at h
    simp only [Option.bind_some] at h
    rw [if_neg hc] at h
    injection h with h
    omega
theorem szShop_some (D L M m : Int) (l : List S115) : ∃ r, laws_szShop.f D L l M m = some r := by
  unfold laws_szShop.f laws_szCarpetS.f
  split
  · simp only [Option.bind_some]; split <;> exact ⟨_, rfl⟩
  · simp only [Option.bind_some]; split <;> exact ⟨_, rfl⟩
theorem szLogC_some (D P : ByteArray) (n m : Int) : ∃ r, laws_szLog.f D P n m = some r := by
  unfold laws_szLog.f
  split
  · exact ⟨_, rfl⟩
  · split <;> exact ⟨_, rfl⟩
theorem szConsole_some (D L M m : Int) (l : List S115) (P Q : ByteArray) (n : Int) : ∃ r, laws_szConsole.f D L l M P Q n m = some r := by
  unfold laws_szConsole.f
  obtain ⟨r, hr⟩ := szShop_some D L M m l
  rw [hr]
  simp only [Option.bind_some]
  split
  · exact ⟨_, rfl⟩
  · obtain ⟨r2, hr2⟩ := szLogC_some P Q n r
    rw [hr2]
    simp only [Option.bind_some]
    split <;> exact ⟨_, rfl⟩
theorem szConsole_le {D L M m r : Int} {l : List S115} {P Q : ByteArray} {n : Int} (hl : l.length ≤ 9223372036854775807) (h0 : 0 ≤ m) (h1 : m ≤ 1048576) (h : laws_szConsole.f D L l M P Q n m = some r) (hr : ¬ r < 0) : (l.length : Int) ≤ m := by
  unfold laws_szConsole.f at h
  obtain ⟨r1, hr1⟩ := szShop_some D L M m l
  rw [hr1] at h
  simp only [Option.bind_some] at h
  by_cases hc : r1 < 0
  · rw [if_pos hc] at h
    injection h with h
    omega
  · exact (szShop_le hl h0 h1 hr1 hc).1

/-! ### A copy of the argument -/
theorem rdL {l : List S115} {i : Nat} (h : i < l.length) : rd_T115 l (i : Int) = l[i] := by
  unfold rd_T115
  rw [Int.toNat_natCast, List.getD_eq_getElem?_getD, List.getElem?_eq_getElem h]; rfl
def toC (x : S115) : S62 := ⟨x.f0, x.f1, x.f2, x.f3, x.f4⟩
theorem toCarpetS_loop (l : List S115) (hl : l.length ≤ 1048576) : ∀ (d i : Nat) (out : List S62), i + d = l.length → out.length = l.length → out.take i = (l.take i).map toC → Ev (fun k => laws_toCarpetS.l0 k l out (i : Int)) (l.map toC) := by
  intro d
  induction d with
  | zero =>
    intro i out hi ho ht
    refine Ev.last fun k => ?_
    simp only [laws_toCarpetS.l0]
    rw [if_neg (by omega)]
    rw [List.take_of_length_le (by omega), List.take_of_length_le (by omega)] at ht
    rw [ht]
  | succ d ih =>
    intro i out hi ho ht
    have hlt : i < l.length := by omega
    refine Ev.step (f := fun k => laws_toCarpetS.l0 k l (out.set i (toC l[i])) ((i + 1 : Nat) : Int)) (fun k => ?_) (ih (i + 1) (out.set i (toC l[i])) (by omega) (by rw [List.length_set]; exact ho) ?_)
    · simp only [laws_toCarpetS.l0]
      rw [if_pos (by omega), if_pos (by omega), rdL hlt]
      unfold laws_toCarpet.f
      simp only [Option.bind_some]
      rw [if_pos (by omega), w64 (by omega) (by omega)]
      rfl
    · rw [List.take_add_one, List.take_set_of_le (Nat.le_refl i), List.getElem?_set_self (by omega), ht, List.take_succ_eq_append_getElem hlt, List.map_append]
      rfl
theorem toCarpetS_ev (l : List S115) (hl : l.length ≤ 1048576) : Ev (fun k => laws_toCarpetS.f k l) (l.map toC) := by
  unfold laws_toCarpetS.f
  exact Ev.pos (by omega) (Ev.pos (by omega) (toCarpetS_loop l hl l.length 0 _ (by omega) (by simp) (by simp)))
theorem toConsole_ev (D L M : Int) (l : List S115) (P Q : ByteArray) (n : Int) (hl : l.length ≤ 1048576) : Ev (fun k => laws_toConsole.f k D L l M P Q n) (D, L, l.map toC, M, P, Q, n) := by
  unfold laws_toConsole.f laws_toShop.f
  exact Ev.bind (Ev.bind (toCarpetS_ev l hl) (Ev.const rfl)) (Ev.bindc (a := (P, Q, n)) rfl (Ev.const rfl))
theorem eqCarpet_same (a b c d e : Int) : laws_eqCarpet.f a b c d e a b c d e = some true := by
  unfold laws_eqCarpet.f
  simp
theorem eqCarpetS_loop (l : List S62) (hl : l.length ≤ 1048576) : ∀ d i : Nat, i + d = l.length → Ev (fun k => laws_eqCarpetS.l0 k l l (i : Int)) true := by
  intro d
  induction d with
  | zero =>
    intro i hi
    refine Ev.last fun k => ?_
    simp only [laws_eqCarpetS.l0]
    rw [if_neg (by omega)]
  | succ d ih =>
    intro i hi
    refine Ev.step (f := fun k => laws_eqCarpetS.l0 k l l ((i + 1 : Nat) : Int)) (fun k => ?_) (ih (i + 1) (by omega))
    simp only [laws_eqCarpetS.l0]
    rw [if_pos (by omega), if_pos (by omega), if_pos (by omega), eqCarpet_same]
    simp only [Option.bind_some]
    rw [if_pos trivial, w64 (by omega) (by omega)]
    rfl
theorem eqCarpetS_same (l : List S62) (hl : l.length ≤ 1048576) : Ev (fun k => laws_eqCarpetS.f k l l) true := by
  unfold laws_eqCarpetS.f
  exact Ev.pos rfl (eqCarpetS_loop l hl l.length 0 (by omega))
theorem eqLogC_same (D P : ByteArray) (n : Int) : laws_eqLog.f D P n D P n = some true := by
  unfold laws_eqLog.f
  simp
theorem eqConsole_same (D L M : Int) (l : List S62) (P Q : ByteArray) (n : Int) (hl : l.length ≤ 1048576) : Ev (fun k => laws_eqConsole.f k D L l M P Q n D L l M P Q n) true := by
  unfold laws_eqConsole.f laws_eqShop.f
  exact Ev.bind (Ev.pos rfl (Ev.pos rfl (Ev.bind (eqCarpetS_same l hl) (Ev.pos rfl (Ev.pos rfl (Ev.const rfl)))))) (Ev.pos rfl (Ev.bindc (eqLogC_same P Q n) (Ev.pos rfl (Ev.const rfl))))
open Classical in
theorem IsValidConsoleI_ev (D L M : Int) (l : List S62) (P Q : ByteArray) (n : Int) (hl : l.length ≤ 140737488351232) (hP : P.size ≤ 140737488351232) (hQ : Q.size ≤ 140737488351232) :
    Ev (fun k => impl_IsValidConsole.f k D L l M P Q n) (decide (vShop D L (cps l) M) && decide (vlog (LogOf P) (LogOf Q) n)) := by
  unfold impl_IsValidConsole.f
  refine Ev.bind (IsShop_ev D L M l hl) ?_
  by_cases h : vShop D L (cps l) M
  · rw [decide_eq_true h, Bool.true_and]
    exact Ev.pos rfl (Ev.bind (IsValidLogI_ev P Q n hP hQ) (Ev.const rfl))
  · rw [decide_eq_false h, Bool.false_and]
    exact Ev.neg (by simp) (Ev.const rfl)
open Classical in
theorem l28Good_ev (D L M : Int) (l : List S62) (P Q : ByteArray) (n : Int) (hP : P.size ≤ 140737488351232) (hQ : Q.size ≤ 140737488351232) :
    Ev (fun k => spec_l28Good.f k D L l M P Q n) (decide (vShop D L (cps l) M) && decide (vlog (LogOf P) (LogOf Q) n)) := by
  unfold spec_l28Good.f
  refine Ev.bind (l25Good_ev D L M l) ?_
  by_cases h : vShop D L (cps l) M
  · rw [decide_eq_true h, Bool.true_and]
    exact Ev.pos rfl (Ev.bind (l27Log_ev P Q n hP hQ) (Ev.const rfl))
  · rw [decide_eq_false h, Bool.false_and]
    exact Ev.neg (by simp) (Ev.const rfl)
end Go.Proofs.YtneaeaoemhghdaaDoor.G

/- The law of FormatConsole, in plain Lean: the printed function of the law answers true. -/
namespace Go.Proofs.YtneaeaoemhghdaaDoor.G
open Go.RowKit Go.Proofs.YtneaeaoemhghdaaDoorW.PrintWords Go.Proofs.YtneaeaoemhghdaaDoorW.PrintLast Go.Proofs.YtneaeaoemhghdaaDoor.LogM Go.Proofs.YtneaeaoemhghdaaDoor.ShopM
set_option linter.unusedVariables false
set_option linter.unusedSimpArgs false

/-- A number's text. -/
def NT (n : Int) : ByteArray := tx (num n.toNat)
theorem NT_size {n : Int} (h : n ≤ 9223372036854775807) : (NT n).size ≤ 30 := by
  unfold NT
  rw [tx_size]
  exact num_len_big _ (by omega)
theorem dec_NT {n : Int} (h0 : 0 ≤ n) (h : n ≤ 9223372036854775807) : impl_decimal.f n = some (NT n) := by
  obtain ⟨m, rfl⟩ : ∃ m : Nat, n = (m : Int) := ⟨n.toNat, by omega⟩
  exact decimal_eq m (by omega)
theorem num_NT {n : Int} (h0 : 0 ≤ n) (h : n ≤ 9223372036854775807) : spec_l1Num.f n = some (NT n) := by
  obtain ⟨m, rfl⟩ : ∃ m : Nat, n = (m : Int) := ⟨n.toNat, by omega⟩
  exact l1Num_eq m (by omega)
/-- A carpet's text. -/
def cText (c : Cp) : ByteArray :=
  if c.loom > 0 then cat (cat (cat (cat (cat (carpetName c.state) ⟨#[32]⟩) (NT c.made)) ⟨#[47]⟩) (NT c.rows)) (cat ⟨#[32, 111, 110, 32]⟩ (NT c.loom))
  else cat (cat (cat (cat (carpetName c.state) ⟨#[32]⟩) (NT c.made)) ⟨#[47]⟩) (NT c.rows)
theorem vC_bounds {D L : Int} {c : Cp} (hL : L ≤ 4) (h : vC D L c) : 0 ≤ c.rows ∧ c.rows ≤ 500 ∧ 0 ≤ c.made ∧ c.made ≤ 500 ∧ 0 ≤ c.state ∧ c.state < 5 ∧ 0 ≤ c.loom ∧ c.loom ≤ 4 := by
  obtain ⟨h1, h2, h3, h4, h5⟩ := h
  split at h5
  · omega
  · split at h5 <;> omega
theorem carpetName_le {s : Int} (h0 : 0 ≤ s) (h5 : s < 5) : (carpetName s).size ≤ 6 := (carpetName_at h0 h5).2
theorem cText_size {D L : Int} {c : Cp} (hL : L ≤ 4) (h : vC D L c) : (cText c).size ≤ 110 := by
  obtain ⟨h1, h2, h3, h4, h5, h6, h7, h8⟩ := vC_bounds hL h
  have a := carpetName_le h5 h6
  have b := NT_size (n := c.made) (by omega)
  have d := NT_size (n := c.rows) (by omega)
  have e := NT_size (n := c.loom) (by omega)
  have s1 : (⟨#[32]⟩ : ByteArray).size = 1 := rfl
  have s2 : (⟨#[47]⟩ : ByteArray).size = 1 := rfl
  have s3 : (⟨#[32, 111, 110, 32]⟩ : ByteArray).size = 4 := rfl
  unfold cText
  split <;> simp only [cat_size, s1, s2, s3] <;> omega
theorem carpetName_rd {s : Int} (h0 : 0 ≤ s) (h5 : s < 5) : rdOf ByteArray.empty ([(⟨#[119, 97, 105, 116, 115]⟩ : ByteArray), (⟨#[119, 111, 118, 101, 110]⟩ : ByteArray), (⟨#[111, 102, 102]⟩ : ByteArray), (⟨#[119, 97, 115, 104, 101, 100]⟩ : ByteArray), (⟨#[115, 111, 108, 100]⟩ : ByteArray)] : List ByteArray) s = carpetName s := rfl
theorem l25Text_eq {D L r m s lo si : Int} (hL : L ≤ 4) (h : vC D L ⟨r, m, s, lo, si⟩) : spec_l25Text.f r m s lo si = some (cText ⟨r, m, s, lo, si⟩) := by
  obtain ⟨h1, h2, h3, h4, h5, h6, h7, h8⟩ := vC_bounds hL h
  simp only at h1 h2 h3 h4 h5 h6 h7 h8
  have a := carpetName_le h5 h6
  have b := NT_size (n := m) (by omega)
  have d := NT_size (n := r) (by omega)
  have e := NT_size (n := lo) (by omega)
  have s1 : (⟨#[32]⟩ : ByteArray).size = 1 := rfl
  have s2 : (⟨#[47]⟩ : ByteArray).size = 1 := rfl
  have s3 : (⟨#[32, 111, 110, 32]⟩ : ByteArray).size = 4 := rfl
  unfold spec_l25Text.f
  simp only [Option.bind_some]
  rw [if_pos h5, if_pos (by simpa using h6), carpetName_rd h5 h6, if_pos (by omega), num_NT h3 (by omega)]
  simp only [Option.bind_some]
  rw [if_pos (by simp only [cat_size, s1]; omega), if_pos (by simp only [cat_size, s1]; omega), num_NT h1 (by omega)]
  simp only [Option.bind_some]
  rw [if_pos (by simp only [cat_size, s1, s2]; omega)]
  unfold cText
  by_cases hlo : lo > 0
  · rw [if_pos hlo, if_pos (by simp only [cat_size, s1, s2]; omega), num_NT h7 (by omega)]
    simp only [Option.bind_some]
    rw [if_pos (by simp only [cat_size, s1, s2, s3]; omega), if_pos hlo]
    refine congrArg some ?_
    apply L_inj
    simp only [L_cat, List.append_assoc]
  · rw [if_neg hlo, if_neg hlo]
open Classical in
theorem CarpetTextI_ev (D L M : Int) (l : List S62) (hv : vShop D L (cps l) M) (i : Nat) (hi : i < l.length) :
    Ev (fun k => impl_CarpetText.f k D L l M (i : Int)) (cText (cp l[i]), true) := by
  have hlen : l.length ≤ 8 := by have := hv.2.2.1; rw [cps_len] at this; exact this
  have hic : i < (cps l).length := by rw [cps_len]; exact hi
  have hc : vC D L (cp l[i]) := by
    have := (hv.2.2.2.2 i hic hic).1
    rw [cps_at hic] at this
    exact this
  obtain ⟨h1, h2, h3, h4, h5, h6, h7, h8⟩ := vC_bounds hv.2.1.2 hc
  have b := NT_size (n := (cp l[i]).made) (by omega)
  have d := NT_size (n := (cp l[i]).rows) (by omega)
  have e := NT_size (n := (cp l[i]).loom) (by omega)
  have sh := IsShop_ev D L M l (by omega)
  rw [decide_eq_true hv] at sh
  unfold impl_CarpetText.f
  refine Ev.bind sh (Ev.pos rfl (Ev.pos ⟨by omega, by omega⟩ ?_))
  rw [rdC hi]
  refine Ev.pos ⟨h5, h6⟩ (Ev.bindc (dec_NT (n := (cp l[i]).made) h3 (by omega)) (Ev.bindc (dec_NT (n := (cp l[i]).rows) h1 (by omega)) (Ev.pos (by show (NT (cp l[i]).made).size + (NT (cp l[i]).rows).size ≤ _; omega) ?_)))
  unfold cText
  by_cases hlo : (cp l[i]).loom > 0
  · rw [if_pos hlo]
    exact Ev.pos hlo (Ev.bindc (dec_NT (n := (cp l[i]).loom) h7 (by omega)) (Ev.pos (by show (NT (cp l[i]).made).size + (NT (cp l[i]).rows).size + (NT (cp l[i]).loom).size ≤ _; omega) (Ev.const rfl)))
  · rw [if_neg hlo]
    exact Ev.neg hlo (Ev.const rfl)

/-! ### The lines -/
def lineOf (i : Nat) (c : Cp) : ByteArray := cat (cat (cat (NT (i : Int)) ⟨#[58, 32]⟩) (cText c)) ⟨#[10]⟩
def outAll : List S62 → Nat → ByteArray → ByteArray
  | [], _, out => out
  | c :: r, i, out => outAll r (i + 1) (cat out (lineOf i (cp c)))
theorem lineOf_size {D L : Int} {c : Cp} (hL : L ≤ 4) (h : vC D L c) (i : Nat) (hi : i ≤ 8) : (lineOf i c).size ≤ 143 := by
  have a := cText_size hL h
  have b := NT_size (n := (i : Int)) (by omega)
  have s1 : (⟨#[58, 32]⟩ : ByteArray).size = 2 := rfl
  have s2 : (⟨#[10]⟩ : ByteArray).size = 1 := rfl
  unfold lineOf
  simp only [cat_size, s1, s2]
  omega
/-- The last line. -/
def tailOf (D M n : Int) : ByteArray := cat (cat (cat (cat (cat (cat ⟨#[100, 97, 121, 32]⟩ (NT D)) ⟨#[59, 32, 109, 111, 110, 101, 121, 32]⟩) (NT M)) ⟨#[59, 32, 114, 101, 99, 111, 114, 100, 115, 32]⟩) (NT n)) ⟨#[10]⟩
section
variable (D L M : Int) (l : List S62) (hv : vShop D L (cps l) M)
include hv
theorem at_vC {i : Nat} (hi : i < l.length) : vC D L (cp l[i]) := by
  have hic : i < (cps l).length := by rw [cps_len]; exact hi
  have := (hv.2.2.2.2 i hic hic).1
  rw [cps_at hic] at this
  exact this
theorem fmtLines_ev : ∀ (d i : Nat) (out : ByteArray), i + d = l.length → out.size ≤ 143 * i → Ev (fun k => fmtLines k D L l M d i out) (outAll (l.drop i) i out) ∧ (outAll (l.drop i) i out).size ≤ 143 * 8 := by
  have hlen : l.length ≤ 8 := by have := hv.2.2.1; rw [cps_len] at this; exact this
  intro d
  induction d with
  | zero =>
    intro i out hi ho
    rw [List.drop_eq_nil_of_le (by omega)]
    exact ⟨Ev.const rfl, by show out.size ≤ _; omega⟩
  | succ d ih =>
    intro i out hi ho
    have hlt : i < l.length := by omega
    have hc := at_vC D L M l hv hlt
    have a := cText_size hv.2.1.2 hc
    have b := NT_size (n := (i : Int)) (by omega)
    have e := lineOf_size hv.2.1.2 hc i (by omega)
    obtain ⟨h1, h2⟩ := ih (i + 1) (cat out (lineOf i (cp l[i]))) (by omega) (by rw [cat_size]; omega)
    rw [List.drop_eq_getElem_cons hlt]
    refine ⟨?_, h2⟩
    unfold fmtLines
    exact Ev.bind (CarpetTextI_ev D L M l hv i hlt) (Ev.bindc (dec_NT (by omega) (by omega)) (Ev.pos (by show out.size + ((NT (i : Int)).size + 2 + (cText (cp l[i])).size + 1) ≤ _; omega) h1))
theorem specLines_ev (P Q : ByteArray) (n : Int) (hn : 0 ≤ n ∧ n ≤ 60) : ∀ (d i : Nat) (out : ByteArray), i + d = l.length → out.size ≤ 143 * i →
    Ev (fun k => spec_FormatConsole.l0 k out (i : Int) D L l M P Q n) (cat (outAll (l.drop i) i out) (tailOf D M n), true) := by
  have hlen : l.length ≤ 8 := by have := hv.2.2.1; rw [cps_len] at this; exact this
  have hD := hv.1
  have hM := hv.2.2.2.1
  have s58 : (⟨#[58, 32]⟩ : ByteArray).size = 2 := rfl
  have s10 : (⟨#[10]⟩ : ByteArray).size = 1 := rfl
  intro d
  induction d with
  | zero =>
    intro i out hi ho
    have b1 := NT_size (n := D) (by omega)
    have b2 := NT_size (n := M) (by omega)
    have b3 := NT_size (n := n) (by omega)
    have t1 : (⟨#[100, 97, 121, 32]⟩ : ByteArray).size = 4 := rfl
    have t2 : (⟨#[59, 32, 109, 111, 110, 101, 121, 32]⟩ : ByteArray).size = 8 := rfl
    have t3 : (⟨#[59, 32, 114, 101, 99, 111, 114, 100, 115, 32]⟩ : ByteArray).size = 10 := rfl
    rw [List.drop_eq_nil_of_le (by omega)]
    refine Ev.last fun k => ?_
    simp only [spec_FormatConsole.l0]
    rw [if_neg (by omega), if_pos (by omega), num_NT hD.1 (by omega)]
    simp only [Option.bind_some]
    rw [if_pos (by simp only [cat_size, t1]; omega), if_pos (by simp only [cat_size, t1]; omega), num_NT hM.1 (by omega)]
    simp only [Option.bind_some]
    rw [if_pos (by simp only [cat_size, t1, t2]; omega), if_pos (by simp only [cat_size, t1, t2]; omega), num_NT hn.1 (by omega)]
    simp only [Option.bind_some]
    rw [if_pos (by simp only [cat_size, t1, t2, t3]; omega), if_pos (by simp only [cat_size, t1, t2, t3]; omega)]
    refine congrArg some ?_
    refine Prod.ext ?_ rfl
    apply L_inj
    simp only [outAll, tailOf, L_cat, List.append_assoc]
  | succ d ih =>
    intro i out hi ho
    have hlt : i < l.length := by omega
    have hc := at_vC D L M l hv hlt
    have a := cText_size hv.2.1.2 hc
    have b := NT_size (n := (i : Int)) (by omega)
    have e := lineOf_size hv.2.1.2 hc i (by omega)
    have h1 := ih (i + 1) (cat out (lineOf i (cp l[i]))) (by omega) (by rw [cat_size]; omega)
    rw [List.drop_eq_getElem_cons hlt]
    refine Ev.step (f := fun k => spec_FormatConsole.l0 k (cat out (lineOf i (cp l[i]))) ((i + 1 : Nat) : Int) D L l M P Q n) (fun k => ?_) h1
    have ht : spec_l25Text.f (l[i]).f0 (l[i]).f1 (l[i]).f2 (l[i]).f3 (l[i]).f4 = some (cText (cp l[i])) := l25Text_eq hv.2.1.2 hc
    simp only [spec_FormatConsole.l0]
    rw [if_pos (by omega), num_NT (by omega) (by omega)]
    simp only [Option.bind_some]
    rw [if_pos (by omega), if_pos (by simp only [cat_size]; omega), if_pos (by omega), rdC hlt, ht]
    simp only [Option.bind_some]
    rw [if_pos (by simp only [cat_size, s58]; omega), if_pos (by simp only [cat_size, s58]; omega), w64 (by omega) (by omega)]
    have : cat (cat (cat (cat out (NT (i : Int))) ⟨#[58, 32]⟩) (cText (cp l[i]))) ⟨#[10]⟩ = cat out (lineOf i (cp l[i])) := by
      apply L_inj
      simp only [lineOf, L_cat, List.append_assoc]
    rw [this]
    rfl
end
theorem vlog_n {D P : List UInt8} {n : Int} (h : vlog D P n) : 0 ≤ n ∧ n ≤ 60 := by
  have := all_length (D ++ P)
  have := h.2.2.2
  omega
open Classical in
/-- What FormatConsole answers. -/
noncomputable def fmtR (D L : Int) (l : List S62) (M : Int) (P Q : ByteArray) (n : Int) : ByteArray × Bool :=
  if vShop D L (cps l) M ∧ vlog (LogOf P) (LogOf Q) n then (cat (outAll l 0 ⟨#[]⟩) (tailOf D M n), true) else (⟨#[]⟩, false)
open Classical in
theorem FormatConsoleI_ev (D L M : Int) (l : List S62) (P Q : ByteArray) (n : Int) (hl : l.length ≤ 140737488351232) (hP : P.size ≤ 140737488351232) (hQ : Q.size ≤ 140737488351232) :
    Ev (fun k => impl_FormatConsole.f k D L l M P Q n) (fmtR D L l M P Q n) := by
  unfold impl_FormatConsole.f fmtR
  refine Ev.bind (IsValidConsoleI_ev D L M l P Q n hl hP hQ) ?_
  by_cases h : vShop D L (cps l) M ∧ vlog (LogOf P) (LogOf Q) n
  · rw [if_pos h, decide_eq_true h.1, decide_eq_true h.2]
    obtain ⟨hv, hg⟩ := h
    have hn := vlog_n hg
    have hD := hv.1
    have hM := hv.2.2.2.1
    obtain ⟨h1, h2⟩ := fmtLines_ev D L M l hv l.length 0 ⟨#[]⟩ (by omega) (by show 0 ≤ _; omega)
    rw [List.drop_zero] at h1 h2
    have b1 := NT_size (n := D) (by omega)
    have b2 := NT_size (n := M) (by omega)
    have b3 := NT_size (n := n) (by omega)
    exact Ev.pos rfl (Ev.bind h1 (Ev.bindc (dec_NT hD.1 (by omega)) (Ev.bindc (dec_NT hM.1 (by omega)) (Ev.bindc (dec_NT hn.1 (by omega)) (Ev.pos (by omega) (Ev.const rfl))))))
  · rw [if_neg h]
    refine Ev.neg ?_ (Ev.const rfl)
    rw [Bool.and_eq_true, decide_eq_true_iff, decide_eq_true_iff]
    exact h
open Classical in
theorem FormatConsoleS_ev (D L M : Int) (l : List S62) (P Q : ByteArray) (n : Int) (hP : P.size ≤ 140737488351232) (hQ : Q.size ≤ 140737488351232) :
    Ev (fun k => spec_FormatConsole.f k D L l M P Q n) (fmtR D L l M P Q n) := by
  unfold spec_FormatConsole.f fmtR
  refine Ev.bind (l28Good_ev D L M l P Q n hP hQ) ?_
  by_cases h : vShop D L (cps l) M ∧ vlog (LogOf P) (LogOf Q) n
  · rw [if_pos h, decide_eq_true h.1, decide_eq_true h.2]
    obtain ⟨hv, hg⟩ := h
    have := specLines_ev D L M l hv P Q n (vlog_n hg) l.length 0 ⟨#[]⟩ (by omega) (by show 0 ≤ _; omega)
    rw [List.drop_zero] at this
    exact Ev.pos rfl this
  · rw [if_neg h]
    refine Ev.neg ?_ (Ev.const rfl)
    rw [Bool.and_eq_true, decide_eq_true_iff, decide_eq_true_iff]
    exact h
theorem FnExactFormatConsole_pure (D L : Int) (l : List S115) (M : Int) (P Q : ByteArray) (n : Int) (hl : l.length ≤ 9223372036854775807) (hP : P.size ≤ 140737488351232) (hQ : Q.size ≤ 140737488351232) :
    Ev (fun k => laws_FnExactFormatConsole.f k D L l M P Q n) true := by
  unfold laws_FnExactFormatConsole.f
  obtain ⟨r, hr⟩ := szConsole_some D L M 1048576 l P Q n
  refine Ev.bindc hr ?_
  by_cases h : r < 0
  · exact Ev.pos h (Ev.const rfl)
  have hlen := szConsole_le hl (by omega) (by omega) hr h
  have tc := toConsole_ev D L M l P Q n (by omega)
  have sp := FormatConsoleS_ev D L M (l.map toC) P Q n hP hQ
  have im := FormatConsoleI_ev D L M (l.map toC) P Q n (by rw [List.length_map]; omega) hP hQ
  have eq := eqConsole_same D L M (l.map toC) P Q n (by rw [List.length_map]; omega)
  generalize fmtR D L (l.map toC) M P Q n = R at sp im
  refine Ev.neg h (Ev.bind tc (Ev.bind sp (Ev.bind tc (Ev.bind im (Ev.pos rfl ?_)))))
  have hb : (R.2 != R.2) = false := by simp
  show Ev (fun k => laws_FnExactFormatConsole.j0 k (R.2 != R.2) D L l M P Q n D L (l.map toC) M P Q n) true
  rw [hb]
  refine Ev.step (f := fun k => (laws_toConsole.f k D L l M P Q n).bind fun b => ((laws_eqConsole.f k D L (l.map toC) M P Q n b.1 b.2.1 b.2.2.1 b.2.2.2.1 b.2.2.2.2.1 b.2.2.2.2.2.1 b.2.2.2.2.2.2).bind fun t => (if t = true then (some true) else (some false)))) (fun k => ?_) (Ev.bind tc (Ev.bind eq (Ev.pos rfl (Ev.const rfl))))
  simp only [laws_FnExactFormatConsole.j0]
  rw [if_neg (by simp)]
end Go.Proofs.YtneaeaoemhghdaaDoor.G

/- What the rows of this seat share: what the listed variables give the walks, a world for the witnesses, and a log as an argument. -/
namespace Go.Proofs.YtneaeaoemhghdaaDoor.G
open Go.ChangeShapes Go.WideShapes Go.ChangeAt Go.RowKit Go.Joins
open Go.ChangeMaps (open_string shut_string)
set_option linter.unusedVariables false

theorem own : ownKnob Tryd.prog.godebug = none := by kernel_rfl
theorem laidOut : laidOutB Tryd.prog = true := by kernel_rfl

/-- The rows' list of variables. -/
abbrev laid3 : List (String × DataW Unit) := [("math/bits.deBruijn32tab", Rows.laid_math_bits_deBruijn32tab), ("math/bits.deBruijn64tab", Rows.laid_math_bits_deBruijn64tab), ("internal/strconv.uint64pow10", Rows.laid_internal_strconv_uint64pow10)]
set_option maxRecDepth 100000 in
theorem Gl_of {W : World} (hL : laidMetH Tryd.prog laid3 W) (hsh : W.ShapedOpen Tryd.prog) : Gl W := by
  refine ⟨cell_of_shapedOpen_int (zero := #[.int .i64 0]) (t := 3) hsh (of_decide_eq_true (by kernel_rfl)) (by kernel_rfl) rfl (by kernel_rfl) (by kernel_rfl) Tryd.underlying3, ?_⟩
  have h : laidMet Tryd.prog laid3 W := hL
  obtain ⟨ps, ⟨g0, t0, cs0, f0, p0, q0, _, _, _, _, ⟨g1, t1, cs1, f1, p1, q1, _, _, _, _, ⟨g2, t2, cs2, f2, p2, q2, hg, ht, hv, hd, _⟩, _⟩, _⟩, _⟩ := h
  obtain rfl := Option.some.inj (gPow.symm.trans hg)
  obtain rfl := Option.some.inj ((show (Tryd.prog.globals[0]?).map (·.type) = some 145 by kernel_rfl).symm.trans ht)
  have hd' : DataW.trod (fun _ => ()) Tryd.prog W 0 (fun _ => true) false f2 145 cs2.toList = some (Lib.tabData .u64 Lib.pow10Tab, p2) := hd
  have e := Lib.cells_of_tab Tryd.underlying145 Tryd.underlying67 (by kernel_rfl) (by kernel_rfl) hd'
  unfold Lib.TabIs
  rw [hv, ← e]

set_option maxRecDepth 100000 in
/-- A world for the witnesses: the settled one, with the listed tables laid. -/
noncomputable def laidWorld (os : Os) : World :=
  { World.holding Tryd.prog os ⟨#[], #[], []⟩ with heap := (((World.holding Tryd.prog os ⟨#[], #[], []⟩).heap.modify 1 (lays (cells (H := Unit) Rows.laid_math_bits_deBruijn32tab))).modify 2 (lays (cells (H := Unit) Rows.laid_math_bits_deBruijn64tab))).modify 0 (lays (cells (H := Unit) Rows.laid_internal_strconv_uint64pow10)) }
where
  lays (cs : Array Value) : Obj → Obj
    | .cells _ t frozen => .cells cs t frozen
    | o => o
  cells {H : Type} : DataW H → Array Value
    | .agg l => (l.filterMap fun | .lit (.int k n) => some (Value.int k n) | _ => none).toArray
    | _ => #[]

section
variable {H : Type} {enc : TypeId × Value → H} {W : World}
end
end Go.Proofs.YtneaeaoemhghdaaDoor.G

/- A console as an argument of a law: what the walk needs of it. -/
namespace Go.Proofs.YtneaeaoemhghdaaDoor.G
open Go.ChangeShapes Go.WideShapes Go.ChangeAt Go.RowKit Go.Joins
open Go.ChangeMaps (open_string shut_string)
open Go.Proofs.YtneaeaoemhghdaaDoorW.PrintWords Go.Proofs.YtneaeaoemhghdaaDoorW.PrintLast
set_option linter.unusedVariables false
set_option linter.unusedSimpArgs false

theorem array7 {α : Type} {cs : Array α} (h : cs.size = 7) : ∃ c0 c1 c2 c3 c4 c5 c6, cs = #[c0, c1, c2, c3, c4, c5, c6] := by
  obtain ⟨l⟩ := cs
  match l, h with
  | [c0, c1, c2, c3, c4, c5, c6], _ => exact ⟨c0, c1, c2, c3, c4, c5, c6, rfl⟩
theorem list5 {α : Type} {l : List α} (h : l.length = 5) : ∃ c0 c1 c2 c3 c4, l = [c0, c1, c2, c3, c4] := by
  match l, h with
  | [c0, c1, c2, c3, c4], _ => exact ⟨c0, c1, c2, c3, c4, rfl⟩
section
variable {H : Type} {enc : TypeId × Value → H} {W : World} {base : Nat} {spare : Nat → Bool} {held : Bool}
set_option maxRecDepth 100000 in
theorem open_carpet {fuel : Nat} {cs : List Value} {y : DataW H × List MemPlace} (h : DataW.trod enc Tryd.prog W base spare held fuel 115 cs = some y) :
    ∃ x : S115, cs = [.int .i64 x.f0, .int .i64 x.f1, .int .i64 x.f2, .int .i64 x.f3, .int .i64 x.f4] := by
  obtain ⟨xs, n, _, _, hl, hlen, hf⟩ := DataW.trod_struct Tryd.underlying115 h
  have h5 : cs.length = 5 := hl.trans (by kernel_rfl)
  obtain ⟨c0, c1, c2, c3, c4, rfl⟩ := list5 h5
  obtain ⟨y0, y1, y2, y3, y4, rfl⟩ := list5 (show xs.length = 5 from hlen)
  have hC : Tryd.prog.cellsOf 3 = 1 := by kernel_rfl
  have h0 := hf 0 _ rfl
  have h1 := hf 1 _ rfl
  have h2 := hf 2 _ rfl
  have h3 := hf 3 _ rfl
  have h4 := hf 4 _ rfl
  simp [hC] at h0 h1 h2 h3 h4
  obtain ⟨n0, e0, _⟩ := DataW.trod_int Tryd.underlying3 h0
  obtain ⟨n1, e1, _⟩ := DataW.trod_int Tryd.underlying3 h1
  obtain ⟨n2, e2, _⟩ := DataW.trod_int Tryd.underlying3 h2
  obtain ⟨n3, e3, _⟩ := DataW.trod_int Tryd.underlying3 h3
  obtain ⟨n4, e4, _⟩ := DataW.trod_int Tryd.underlying3 h4
  simp at e0 e1 e2 e3 e4
  exact ⟨⟨n0, n1, n2, n3, n4⟩, by rw [e0, e1, e2, e3, e4]⟩
set_option maxRecDepth 100000 in
theorem open_carpets {fuel : Nat} {c : Value} {y : DataW H × List MemPlace} (h : DataW.trod enc Tryd.prog W base spare held fuel 43 [c] = some y) :
    ∃ (A : Option Addr) (len cap : Nat) (zs : List S115), c = .slice A len cap ∧ zs.length = len ∧ len ≤ cap ∧ Kd.C k115 W A zs.length zs := by
  rcases DataW.trod_slice Tryd.underlying43 h with ⟨hcs, _⟩ | ⟨a, len, cap, elems, rest, n, _, hcs, _, hb, hl, hm, hlen, hel, _, _⟩
  · injection hcs with hcs
    exact ⟨none, 0, 0, [], hcs, rfl, Nat.le_refl _, Kd.C_nil _ _⟩
  · injection hcs with hcs
    have h5 : Tryd.prog.cellsOf 115 = 5 := by kernel_rfl
    have key : ∀ i, i < len → ∃ x : S115, ∀ j u, [Value.int .i64 x.f0, .int .i64 x.f1, .int .i64 x.f2, .int .i64 x.f3, .int .i64 x.f4][j]? = some u → W.cell? (a.add (i * 5 + j)) = some u := by
      intro i hi
      have he := hel i hi
      rw [h5, List.getElem?_eq_getElem (by omega)] at he
      obtain ⟨cs, hcs, ht⟩ := Option.bind_eq_some_iff.1 he
      obtain ⟨_, hcl, hcell⟩ := World.cells?_some hcs
      obtain ⟨x, rfl⟩ := open_carpet ht
      refine ⟨x, fun j u hj => ?_⟩
      have hj5 : j < 5 := by
        have := (List.getElem?_eq_some_iff.1 hj).1
        simpa using this
      rw [← Addr.add_add, hcell j hj5]
      exact hj
    have hmax : len ≤ 9223372036854775807 := by have : maxLen ≤ 9223372036854775807 := by decide
                                                omega
    refine ⟨some a, len, cap, List.ofFn fun i : Fin len => Classical.choose (key i.1 i.2), hcs, by simp, hl, by simp, by simpa using hmax, fun _ => ⟨a, rfl, fun j p hp => ?_⟩⟩
    have hjl : j < len := by
      have := (List.getElem?_eq_some_iff.1 hp).1
      simpa using this
    have hpe : p = Classical.choose (key j hjl) := by
      rw [List.getElem?_eq_getElem (by simpa using hjl)] at hp
      injection hp with hp
      rw [← hp, List.getElem_ofFn]
    subst hpe
    exact ⟨_, rfl, k115_mk W _, fun i u hu => Classical.choose_spec (key j hjl) i u hu⟩
set_option maxRecDepth 100000 in
theorem open_console {b0 : Nat} {v : Value} {d : DataW H} {p : List MemPlace} (hv : Value.okWide Tryd.prog W .any b0 49 v) (h : DataW.Trod enc Tryd.prog W base spare held 49 v d p) :
    ∃ (D L : Int) (A : Option Addr) (cap : Nat) (zs : List S115) (M : Int) (P Q : ByteArray) (n : Int) (dc : DataW H),
      v = .agg #[.int .i64 D, .int .i64 L, .slice A zs.length cap, .int .i64 M, .string P, .string Q, .int .i64 n] ∧ zs.length ≤ cap ∧ Kd.C k115 W A zs.length zs ∧
      d = .agg [.agg [.lit (.int .i64 D), .lit (.int .i64 L), dc, .lit (.int .i64 M)], .agg [.lit (.string P.data.toList), .lit (.string Q.data.toList), .lit (.int .i64 n)]] := by
  obtain ⟨cs, rfl, hsz⟩ := okWide_struct Tryd.underlying49 hv
  obtain ⟨c0, c1, c2, c3, c4, c5, c6, rfl⟩ := array7 (hsz.trans (by kernel_rfl))
  obtain ⟨fuel, hf⟩ := h
  obtain ⟨y0, y1, n, hx, _, h0, h1⟩ := trod_struct2 Tryd.underlying49 hf
  have kS : Tryd.prog.cellsOf 45 = 4 := by kernel_rfl
  have kL : Tryd.prog.cellsOf 47 = 3 := by kernel_rfl
  have k1 : Tryd.prog.cellsOf 3 = 1 := by kernel_rfl
  have k9 : Tryd.prog.cellsOf 9 = 1 := by kernel_rfl
  have kc : Tryd.prog.cellsOf 43 = 1 := by kernel_rfl
  simp [Value.cells, kS, kL] at h0 h1
  obtain ⟨z0, z1, z2, z3, m, hz, _, g0, g1, g2, g3⟩ := trod_struct4 Tryd.underlying45 h0
  obtain ⟨u0, u1, u2, m', hu, _, f0, f1, f2⟩ := Go.Deep.trod_struct3 Tryd.underlying47 h1
  simp [k1, k9, kc] at g0 g1 g2 g3 f0 f1 f2
  obtain ⟨D, e0, rfl, _⟩ := DataW.trod_int Tryd.underlying3 g0
  obtain ⟨L, e1, rfl, _⟩ := DataW.trod_int Tryd.underlying3 g1
  obtain ⟨A, len, cap, zs, e2, rfl, hle, hC⟩ := open_carpets g2
  obtain ⟨M, e3, rfl, _⟩ := DataW.trod_int Tryd.underlying3 g3
  obtain ⟨P, e4, rfl, _⟩ := DataW.trod_string Tryd.underlying9 f0
  obtain ⟨Q, e5, rfl, _⟩ := DataW.trod_string Tryd.underlying9 f1
  obtain ⟨n', e6, rfl, _⟩ := DataW.trod_int Tryd.underlying3 f2
  simp at e0 e1 e3 e4 e5 e6
  subst e0 e1 e2 e3 e4 e5 e6
  simp only [Prod.mk.injEq] at hx
  refine ⟨D, L, A, cap, zs, M, P, Q, n', z2.1, rfl, hle, hC, ?_⟩
  rw [hx.1, hz, hu]
set_option maxRecDepth 100000 in
theorem sized_console {ts : List TypeId} {ds : List (DataW H)} (h : (DataW.weightsEach Tryd.prog ts ds).all (· ≤ reachBytes) = true) {j : Nat} {D L M : Int} {dc : DataW H} {P Q : ByteArray} {n : Int} (ht : ts[j]? = some 49)
    (hd : ds[j]? = some (.agg [.agg [.lit (.int .i64 D), .lit (.int .i64 L), dc, .lit (.int .i64 M)], .agg [.lit (.string P.data.toList), .lit (.string Q.data.toList), .lit (.int .i64 n)]])) : P.size ≤ 140737488351232 ∧ Q.size ≤ 140737488351232 := by
  have a := List.all_eq_true.1 h _ (DataW.weights_mem_each ht hd P.data.toList.length (by simp [DataW.weights, DataW.weightsEach, Tryd.underlying49, Tryd.underlying45, Tryd.underlying47]))
  have b := List.all_eq_true.1 h _ (DataW.weights_mem_each ht hd Q.data.toList.length (by simp [DataW.weights, DataW.weightsEach, Tryd.underlying49, Tryd.underlying45, Tryd.underlying47]))
  rw [decide_eq_true_eq, Array.length_toList] at a b
  exact ⟨a, b⟩
end
end Go.Proofs.YtneaeaoemhghdaaDoor.G
