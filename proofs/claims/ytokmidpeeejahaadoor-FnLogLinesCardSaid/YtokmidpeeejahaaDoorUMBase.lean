/- What the printed functions of the log come to: the reference's side. -/
import Derived.Test.YtokmidpeeejahaaDoorUMLog
import Derived.Test.YtokmidpeeejahaaDoorUGx5
namespace Go.Proofs.YtokmidpeeejahaaDoor.G
open Go.RowKit Go.Proofs.YtokmidpeeejahaaDoorW.PrintWords Go.Proofs.YtokmidpeeejahaaDoorW.PrintLast Go.Proofs.YtokmidpeeejahaaDoor.LogM
set_option linter.unusedVariables false
set_option linter.unusedSimpArgs false

/-! ### Texts and lists of bytes -/
abbrev L (s : ByteArray) : List UInt8 := s.data.toList
def tx (l : List UInt8) : ByteArray := ⟨l.toArray⟩
theorem L_tx (l : List UInt8) : L (tx l) = l := by simp [L, tx]
theorem tx_L (s : ByteArray) : tx (L s) = s := by
  apply ByteArray.ext
  simp [L, tx]
theorem L_one (b : UInt8) : L ⟨#[b]⟩ = [b] := rfl
theorem L_inj {a b : ByteArray} (h : L a = L b) : a = b := by rw [← tx_L a, h, tx_L]
theorem L_len (s : ByteArray) : (L s).length = s.size := rfl
theorem tx_size (l : List UInt8) : (tx l).size = l.length := by simp [tx, ByteArray.size]
theorem L_cat (a b : ByteArray) : L (cat a b) = L a ++ L b := by
  unfold cat L
  rw [ByteArray.data_append]
  simp
theorem cat_size (a b : ByteArray) : (cat a b).size = a.size + b.size := by unfold cat; exact ByteArray.size_append
theorem L_subs (s : ByteArray) (i j : Nat) : L (subs s i j) = ((L s).drop i).take (j - i) := by
  unfold subs L
  rw [ByteArray.data_extract]
  simp [List.extract_eq_take_drop]
theorem subs_from (s : ByteArray) (i : Nat) : subs s i s.size = tx ((L s).drop i) := by
  apply L_inj
  rw [L_subs, L_tx]
  rw [List.take_of_length_le (by rw [List.length_drop, L_len]; omega)]
theorem bt_nat (s : ByteArray) (i : Nat) (h : i < s.size) : bt s (i : Int) = (((L s)[i]'h).toNat : Int) := by
  unfold bt
  rw [dif_pos (by simpa using h)]
  rfl
theorem toList_L (s : ByteArray) : s.toList = L s := ByteArray.toList_eq s
theorem w64 {x : Int} (h0 : -9223372036854775808 ≤ x) (h1 : x ≤ 9223372036854775807) : wrap64 x = x := by unfold wrap64; omega
theorem rdOf_zero (t : List ByteArray) : rdOf ByteArray.empty t 0 = t.headD ByteArray.empty := by cases t <;> rfl
/-- A bound under which nothing of the log's comes near a limit. -/
def small (s : ByteArray) : Prop := s.size ≤ 1000000000000
theorem Ev.pos {α : Type} {c : Prop} [Decidable c] {g f : Nat → Option α} {r : α} (h : c) (k : Ev g r) : Ev (fun n => if c then g n else f n) r := by
  obtain ⟨K, k⟩ := k
  exact ⟨K, fun n hn => (if_pos h).trans (k n hn)⟩
theorem Ev.neg {α : Type} {c : Prop} [Decidable c] {g f : Nat → Option α} {r : α} (h : ¬ c) (k : Ev f r) : Ev (fun n => if c then g n else f n) r := by
  obtain ⟨K, k⟩ := k
  exact ⟨K, fun n hn => (if_neg h).trans (k n hn)⟩
theorem Ev.const {α : Type} {g : Option α} {r : α} (h : g = some r) : Ev (fun _ => g) r := ⟨0, fun _ _ => h⟩
theorem Ev.bindc {α β : Type} {g : Option α} {f : Nat → α → Option β} {a : α} {r : β} (h : g = some a) (k : Ev (fun n => f n a) r) : Ev (fun n => g.bind (f n)) r := by
  rw [h]; exact k
theorem Ev.last {α : Type} {g : Nat → Option α} {r : α} (h : ∀ k, g (k + 1) = some r) : Ev g r := ⟨1, fun k hk => by
  obtain ⟨m, rfl⟩ : ∃ m, k = m + 1 := ⟨k - 1, by omega⟩
  exact h m⟩
theorem drop_cons (s : ByteArray) (i : Nat) (h : i < s.size) : (L s).drop i = (L s)[i]'h :: (L s).drop (i + 1) := List.drop_eq_getElem_cons h

/-! ### Small functions -/
theorem l1In_eq (a b c : Int) : spec_l1In.f a b c = some (decide (b ≤ a ∧ a ≤ c)) := by
  unfold spec_l1In.f
  by_cases h : a ≥ b
  · rw [if_pos h]; simp [h]
  · rw [if_neg h]; simp [h]
theorem l1Num_eq (k : Nat) (h : k ≤ 9223372036854775807) : spec_l1Num.f (k : Int) = some (tx (num k)) := by
  unfold spec_l1Num.f
  rw [if_pos ⟨by omega, by omega⟩, ← itoa_num]; rfl
theorem plain_iff (b : UInt8) : plain b ↔ (32 ≤ (b.toNat : Int) ∧ (b.toNat : Int) ≤ 126) ∧ ¬ (b.toNat : Int) = 35 := by
  unfold plain
  have e1 : (32 : UInt8) ≤ b ↔ 32 ≤ (b.toNat : Int) := by rw [UInt8.le_iff_toNat_le]; have : (32 : UInt8).toNat = 32 := rfl; omega
  have e2 : b ≤ (126 : UInt8) ↔ (b.toNat : Int) ≤ 126 := by rw [UInt8.le_iff_toNat_le]; have : (126 : UInt8).toNat = 126 := rfl; omega
  have e3 : b ≠ (35 : UInt8) ↔ ¬ (b.toNat : Int) = 35 := by
    constructor
    · intro h h'
      exact h (UInt8.toNat_inj.1 (by have : (35 : UInt8).toNat = 35 := rfl; omega))
    · rintro h rfl
      exact h rfl
  rw [e1, e2, e3, and_assoc]
theorem l27Plain_loop (s : ByteArray) (m : Int) (hs : small s) : ∀ d i : Nat, i + d = s.size → Ev (fun k => spec_l27Plain.l0 k s m (i : Int)) (decide ((∀ b ∈ (L s).drop i, plain b) ∧ (s.size : Int) ≤ m)) := by
  intro d
  unfold small at hs
  induction d with
  | zero =>
    intro i hi
    refine Ev.last fun k => ?_
    simp only [spec_l27Plain.l0]
    rw [if_neg (by omega)]
    have : (L s).drop i = [] := List.drop_eq_nil_of_le (by rw [L_len]; omega)
    rw [this]
    simp
  | succ d ih =>
    intro i hi
    have hlt : i < s.size := by omega
    have hb := bt_nat s i hlt
    have hr := bt_range s (i : Int)
    by_cases hp : plain ((L s)[i]'hlt)
    · have hp' := (plain_iff _).1 hp
      rw [← hb] at hp'
      refine Ev.step (f := fun k => spec_l27Plain.l0 k s m ((i + 1 : Nat) : Int)) (fun k => ?_) ?_
      · simp only [spec_l27Plain.l0]
        rw [if_pos (by omega), if_pos (by omega), l1In_eq, w64 (by omega) (by omega)]
        simp only [Option.bind_some]
        rw [if_pos (by simpa using hp'.1), if_neg hp'.2, w64 (by omega) (by omega)]
        rfl
      · have := ih (i + 1) (by omega)
        have e : (∀ b ∈ (L s).drop i, plain b) ↔ (∀ b ∈ (L s).drop (i + 1), plain b) := by
          rw [drop_cons s i hlt]
          generalize (L s)[i]'hlt = x at hp
          simp [hp]
        simp only [e]
        exact this
    · refine Ev.last fun k => ?_
      have hp' := fun h => hp ((plain_iff _).2 h)
      rw [← hb] at hp'
      have e : (decide ((∀ b ∈ (L s).drop i, plain b) ∧ (s.size : Int) ≤ m)) = false := by
        rw [drop_cons s i hlt]
        generalize (L s)[i]'hlt = x at hp
        simp [hp]
      rw [e]
      simp only [spec_l27Plain.l0]
      rw [if_pos (by omega), if_pos (by omega), l1In_eq, w64 (by omega) (by omega)]
      simp only [Option.bind_some]
      by_cases h : 32 ≤ bt s (i : Int) ∧ bt s (i : Int) ≤ 126
      · rw [if_pos (by simpa using h), if_pos (Classical.not_not.1 fun q => hp' ⟨h, q⟩)]
      · rw [if_neg (by simpa using h)]
theorem l27Plain_ev (s : ByteArray) (m : Int) (hs : small s) : Ev (fun k => spec_l27Plain.f k s m) (decide ((∀ b ∈ L s, plain b) ∧ (s.size : Int) ≤ m)) := by
  have := l27Plain_loop s m hs s.size 0 (by omega)
  simpa [spec_l27Plain.f] using this
theorem l1Stands_loop (s : ByteArray) (c : UInt8) (hs : small s) : ∀ d i : Nat, i + d = s.size → Ev (fun k => spec_l1Stands.l0 k s (c.toNat : Int) (i : Int)) (decide (c ∈ (L s).drop i)) := by
  intro d
  unfold small at hs
  induction d with
  | zero =>
    intro i hi
    refine Ev.last fun k => ?_
    simp only [spec_l1Stands.l0]
    rw [if_neg (by omega)]
    have : (L s).drop i = [] := List.drop_eq_nil_of_le (by rw [L_len]; omega)
    rw [this]
    simp
  | succ d ih =>
    intro i hi
    have hlt : i < s.size := by omega
    have hb := bt_nat s i hlt
    by_cases hc : (L s)[i]'hlt = c
    · refine Ev.last fun k => ?_
      simp only [spec_l1Stands.l0]
      rw [if_pos (by omega), if_pos (by omega), if_pos (by rw [hb, hc])]
      rw [drop_cons s i hlt, hc]
      simp
    · refine Ev.step (f := fun k => spec_l1Stands.l0 k s (c.toNat : Int) ((i + 1 : Nat) : Int)) (fun k => ?_) ?_
      · simp only [spec_l1Stands.l0]
        rw [if_pos (by omega), if_pos (by omega), if_neg (by rw [hb]; intro h; exact hc (UInt8.toNat_inj.1 (by omega))), w64 (by omega) (by omega)]
        rfl
      · have e : c ∈ (L s).drop i ↔ c ∈ (L s).drop (i + 1) := by
          rw [drop_cons s i hlt]
          generalize (L s)[i]'hlt = x at hc
          have hc' : ¬ c = x := fun h => hc h.symm
          simp [hc']
        simp only [e]
        exact ih (i + 1) (by omega)
theorem l1Stands_ev (s : ByteArray) (c : UInt8) (n : Int) (hn : n = (c.toNat : Int)) (hs : small s) : Ev (fun k => spec_l1Stands.f k s n) (decide (c ∈ L s)) := by
  subst hn
  have := l1Stands_loop s c hs s.size 0 (by omega)
  simpa [spec_l1Stands.f] using this
theorem l27Good_ev (c r : ByteArray) (hc : small c) (hr : small r) : Ev (fun k => spec_l27Good.f k c r) (decide (Rec.good ⟨L c, L r⟩)) := by
  unfold spec_l27Good.f
  by_cases h0 : c.toList = []
  · refine Ev.pos h0 (Ev.const (congrArg some ?_))
    rw [toList_L] at h0
    symm
    exact decide_eq_false (fun g => by have h1 : 1 ≤ (L c).length := g.1; rw [h0] at h1; simp at h1)
  · refine Ev.neg h0 (Ev.bind (l27Plain_ev c 160 hc) ?_)
    rw [toList_L] at h0
    have h1 : 1 ≤ (L c).length := by
      cases h : L c with
      | nil => exact absurd h h0
      | cons a l => simp
    by_cases hp : (∀ b ∈ L c, plain b) ∧ (c.size : Int) ≤ 160
    · refine Ev.pos (by simpa using hp) (Ev.bind (l1Stands_ev c 64 64 rfl hc) ?_)
      have h2 : (L c).length ≤ 160 := by rw [L_len]; omega
      by_cases h64 : 64 ∈ L c
      · refine Ev.pos (by simpa using h64) (Ev.const (congrArg some ?_))
        symm
        exact decide_eq_false (fun g => g.2.2.2.1 h64)
      · refine Ev.neg (by simpa using h64) (Ev.bind (l27Plain_ev r 200 hr) (Ev.const (congrArg some ?_)))
        have e : ((r.size : Int) ≤ 200) ↔ (L r).length ≤ 200 := by rw [L_len]; omega
        refine decide_eq_decide.2 ⟨?_, ?_⟩
        · rintro ⟨a, b⟩; exact ⟨h1, h2, hp.1, h64, e.1 b, a⟩
        · rintro ⟨_, _, _, _, b, a⟩; exact ⟨a, e.2 b⟩
    · refine Ev.neg (by simpa using hp) (Ev.const (congrArg some ?_))
      symm
      refine decide_eq_false (fun g => hp ⟨g.2.2.1, ?_⟩)
      have h2 : (L c).length ≤ 160 := g.2.1
      rw [L_len] at h2
      omega
theorem sum_step (n : Nat) (hn : n < 999979) (b : UInt8) : Int.tmod (wrap64 ((wrap64 ((wrap64 (41 * (n : Int))) + (wrap64 (b.toNat : Int)))) + 1)) 999979 = (((41 * n + b.toNat + 1) % 999979 : Nat) : Int) := by
  have := b.toNat_lt
  rw [w64 (x := 41 * (n : Int)) (by omega) (by omega), w64 (x := (b.toNat : Int)) (by omega) (by omega), w64 (x := 41 * (n : Int) + b.toNat) (by omega) (by omega), w64 (by omega) (by omega)]
  rw [Int.tmod_eq_emod_of_nonneg (by omega)]
  omega
theorem take_succ (s : ByteArray) (i : Nat) (h : i < s.size) : (L s).take (i + 1) = (L s).take i ++ [(L s)[i]'h] := by
  rw [List.take_succ_eq_append_getElem]
theorem l1Sum_loop (s : ByteArray) (hs : small s) : ∀ d i : Nat, i + d = s.size → Ev (fun k => spec_l1Sum.l0 k s (sumOf ((L s).take i) : Int) (i : Int)) (sumOf (L s) : Int) := by
  intro d
  unfold small at hs
  induction d with
  | zero =>
    intro i hi
    refine Ev.last fun k => ?_
    simp only [spec_l1Sum.l0]
    rw [if_neg (by omega), List.take_of_length_le (by rw [L_len]; omega)]
  | succ d ih =>
    intro i hi
    have hlt : i < s.size := by omega
    refine Ev.step (f := fun k => spec_l1Sum.l0 k s (sumOf ((L s).take (i + 1)) : Int) ((i + 1 : Nat) : Int)) (fun k => ?_) (ih (i + 1) (by omega))
    simp only [spec_l1Sum.l0]
    rw [if_pos (by omega), if_pos (by omega), bt_nat s i hlt, sum_step _ (sumOf_lt _), take_succ s i hlt, sumOf_snoc, w64 (by omega) (by omega)]
    rfl
theorem l1Sum_ev (s : ByteArray) (hs : small s) : Ev (fun k => spec_l1Sum.f k s) (sumOf (L s) : Int) := by
  have := l1Sum_loop s hs s.size 0 (by omega)
  simpa [spec_l1Sum.f, sumOf] using this
theorem num_len_big (k : Nat) (h : k < 10000000000000000000) : (num k).length ≤ 30 := by
  unfold num
  rw [Lib.decDigits_length]
  exact nDigits_le 30 _ (by omega) (by omega)
theorem l1Seal_ev (s : ByteArray) (hs : small s) : Ev (fun k => spec_l1Seal.f k s) (tx (sealed (L s))) := by
  have hlt := sumOf_lt (L s)
  have hl := num_len_small (show sumOf (L s) < 1000000 by omega)
  have hs' := hs
  unfold small at hs'
  unfold spec_l1Seal.f
  refine Ev.pos (by omega) (Ev.bind (l1Sum_ev s hs) (Ev.bindc (l1Num_eq _ (by omega)) (Ev.pos ?_ (Ev.const ?_))))
  · rw [cat_size, tx_size]
    have : (⟨#[35]⟩ : ByteArray).size = 1 := rfl
    omega
  · congr 1
    apply L_inj
    rw [L_cat, L_cat, L_tx, L_tx]
    simp [sealed, L_one]
theorem l27Line_ev (k : Nat) (hk : k < 1000000000000000000) (c r : ByteArray) (hc : c.size ≤ 100000000000) (hr : r.size ≤ 100000000000) : Ev (fun n => spec_l27Line.f n (k : Int) c r) (tx (line k ⟨L c, L r⟩)) := by
  have hn := num_len_big k (by omega)
  have e1 : (⟨#[32]⟩ : ByteArray).size = 1 := rfl
  have e2 : (⟨#[64]⟩ : ByteArray).size = 1 := rfl
  unfold spec_l27Line.f
  refine Ev.bindc (l1Num_eq k (by omega)) ?_
  have hb : cat (cat (cat (cat (tx (num k)) ⟨#[32]⟩) c) ⟨#[64]⟩) r = tx (body k ⟨L c, L r⟩) := by
    apply L_inj
    simp only [L_cat, L_tx]
    simp [body, L_one]
  have hsz : (tx (body k ⟨L c, L r⟩)).size ≤ 200000000100 := by
    rw [← hb]
    simp only [cat_size, tx_size, e1, e2]
    omega
  refine Ev.pos (by rw [tx_size]; omega) (Ev.pos (by simp only [cat_size, tx_size, e1]; omega) (Ev.pos (by simp only [cat_size, tx_size, e1]; omega) (Ev.pos (by simp only [cat_size, tx_size, e1, e2]; omega) ?_)))
  rw [hb]
  refine Ev.bind (l1Seal_ev _ (by unfold small; omega)) ?_
  have hl := seal_len (L (tx (body k ⟨L c, L r⟩)))
  rw [L_len] at hl
  refine Ev.pos (by rw [tx_size]; omega) (Ev.const (congrArg some ?_))
  apply L_inj
  simp only [L_cat, L_tx]
  simp [line, L_one]
end Go.Proofs.YtokmidpeeejahaaDoor.G
