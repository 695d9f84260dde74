/- What the printed functions of the log come to: the program's side. -/
import Derived.Test.YtokmidpeeejahaaDoorUMOpen
import Derived.Test.YtokmidpeeejahaaDoorUGx5
import Derived.Test.YtokmidpeeejahaaDoorUGx6
import Derived.Test.YtokmidpeeejahaaDoorUGx7
namespace Go.Proofs.YtokmidpeeejahaaDoor.G
open Go.RowKit Go.Proofs.YtokmidpeeejahaaDoorW.PrintWords Go.Proofs.YtokmidpeeejahaaDoorW.PrintLast Go.Proofs.YtokmidpeeejahaaDoor.LogM
set_option linter.unusedVariables false
set_option linter.unusedSimpArgs false

theorem in_eq (a b c : Int) : impl_in.f a b c = some (decide (b ≤ a ∧ a ≤ c)) := by
  unfold impl_in.f
  by_cases h : a ≥ b
  · rw [if_pos h]; simp [h]
  · rw [if_neg h]; simp [h]
theorem plainB_eq (b : UInt8) : plainB b = decide (plain b) := by
  rw [Bool.eq_iff_iff]
  unfold plainB
  simp only [Bool.and_eq_true, decide_eq_true_eq, plain_iff]
  omega
theorem isPlain_eq (s : ByteArray) (hs : s.size ≤ 9223372036854775807) : impl_isPlain.f s = some (decide (∀ b ∈ L s, plain b)) := by
  unfold impl_isPlain.f
  rw [if_pos hs]
  congr 1
  rw [Bool.eq_iff_iff, decide_eq_true_iff]
  have e : ((L s).all plainB = true) ↔ ∀ b ∈ L s, plain b := by
    rw [List.all_eq_true]
    exact forall₂_congr fun b _ => by rw [plainB_eq, decide_eq_true_iff]
  exact e
theorem contains_eq (s : ByteArray) (b : UInt8) (hs : s.size < 4294967281) : strings_Contains.f s ⟨#[b]⟩ = some (decide (b ∈ L s)) := by
  unfold strings_Contains.f
  rw [if_pos hs]
  exact congrArg some (contains_one b (L s))
theorem IsValidRecord_eq (c r : ByteArray) : impl_IsValidRecord.f c r = some (decide (Rec.good ⟨L c, L r⟩)) := by
  unfold impl_IsValidRecord.f
  rw [in_eq]
  simp only [Option.bind_some]
  by_cases h1 : (1 : Int) ≤ (c.size : Int) ∧ (c.size : Int) ≤ 160
  · rw [if_pos (by simpa using h1), isPlain_eq _ (by omega)]
    simp only [Option.bind_some]
    by_cases h2 : ∀ b ∈ L c, plain b
    · rw [if_pos (by simpa using h2), contains_eq _ _ (by omega)]
      simp only [Option.bind_some]
      by_cases h3 : 64 ∈ L c
      · rw [if_pos (by simpa using h3)]
        exact congrArg some (decide_eq_false (fun g => g.2.2.2.1 h3)).symm
      · rw [if_neg (by simpa using h3)]
        by_cases h4 : (r.size : Int) ≤ 200
        · rw [if_pos h4, isPlain_eq _ (by omega)]
          simp only [Option.bind_some]
          refine congrArg some (decide_eq_decide.2 ⟨fun g => ⟨?_, ?_, h2, h3, ?_, g⟩, fun g => g.2.2.2.2.2⟩)
          · show 1 ≤ (L c).length
            rw [L_len]; omega
          · show (L c).length ≤ 160
            rw [L_len]; omega
          · show (L r).length ≤ 200
            rw [L_len]; omega
        · rw [if_neg h4]
          refine congrArg some (decide_eq_false (fun g => h4 ?_)).symm
          have : (L r).length ≤ 200 := g.2.2.2.2.1
          rw [L_len] at this
          omega
    · rw [if_neg (by simpa using h2)]
      exact congrArg some (decide_eq_false (fun g => h2 g.2.2.1)).symm
  · rw [if_neg (by simpa using h1)]
    refine congrArg some (decide_eq_false (fun g => h1 ?_)).symm
    have a : 1 ≤ (L c).length := g.1
    have b : (L c).length ≤ 160 := g.2.1
    rw [L_len] at a b
    omega
theorem decimal_eq (k : Nat) (h : k ≤ 9223372036854775807) : impl_decimal.f (k : Int) = some (tx (num k)) := by
  unfold impl_decimal.f strconv_Itoa.f
  rw [if_pos ⟨by omega, by omega⟩, ← itoa_num]
  rfl
theorem Checksum_loop (s : ByteArray) (hs : small s) : ∀ d i : Nat, i + d = s.size → Ev (fun k => impl_Checksum.l0 k s (sumOf ((L s).take i) : Int) (s.size : Int) (i : Int)) ((sumOf (L s) : Int), true) := by
  intro d
  unfold small at hs
  induction d with
  | zero =>
    intro i hi
    refine Ev.last fun k => ?_
    simp only [impl_Checksum.l0]
    rw [if_neg (by omega), List.take_of_length_le (by rw [L_len]; omega)]
  | succ d ih =>
    intro i hi
    have hlt : i < s.size := by omega
    refine Ev.step (f := fun k => impl_Checksum.l0 k s (sumOf ((L s).take (i + 1)) : Int) (s.size : Int) ((i + 1 : Nat) : Int)) (fun k => ?_) (ih (i + 1) (by omega))
    simp only [impl_Checksum.l0]
    rw [if_pos (by omega), if_pos (by omega), if_pos (by omega), bt_nat s i hlt, sum_step _ (sumOf_lt _), take_succ s i hlt, sumOf_snoc, w64 (by omega) (by omega)]
    rfl
theorem Checksum_ev (s : ByteArray) (hs : s.size ≤ 4000) : Ev (fun k => impl_Checksum.f k s) ((sumOf (L s) : Int), true) := by
  unfold impl_Checksum.f
  refine Ev.neg (by omega) ?_
  have := Checksum_loop s (by unfold small; omega) s.size 0 (by omega)
  simpa [sumOf] using this
theorem sealed_cat (s : ByteArray) : cat (cat s ⟨#[35]⟩) (tx (num (sumOf (L s)))) = tx (sealed (L s)) := by
  apply L_inj
  rw [L_cat, L_cat, L_tx, L_tx, L_one]
  simp [sealed]
/-- What AppendChecksum answers. -/
def sealI (l : List UInt8) : List UInt8 × Bool := if l.length ≤ 4000 ∧ 35 ∉ l ∧ (sealed l).length ≤ 4000 then (sealed l, true) else ([], false)
theorem AppendChecksum_ev (s : ByteArray) (hs : s.size ≤ 1000000000) : Ev (fun k => impl_AppendChecksum.f k s) (tx (sealI (L s)).1, (sealI (L s)).2) := by
  have e1 : (⟨#[35]⟩ : ByteArray).size = 1 := rfl
  have hlt := sumOf_lt (L s)
  have hl := num_len_small (show sumOf (L s) < 1000000 by omega)
  unfold impl_AppendChecksum.f
  by_cases h4 : s.size ≤ 4000
  · refine Ev.bind (Checksum_ev s h4) (Ev.pos (by omega) (Ev.bindc (decimal_eq _ (by omega)) (Ev.pos (by rw [cat_size, tx_size, e1]; omega) (Ev.pos rfl (Ev.bindc (contains_eq _ _ (by omega)) ?_)))))
    rw [sealed_cat, tx_size]
    unfold sealI
    by_cases h35 : 35 ∈ L s
    · refine Ev.pos (by simpa using h35) (Ev.const ?_)
      rw [if_neg (fun h => h.2.1 h35)]
      rfl
    · refine Ev.neg (by simpa using h35) ?_
      by_cases hz : (sealed (L s)).length ≤ 4000
      · refine Ev.neg (by omega) (Ev.const ?_)
        rw [if_pos ⟨by rw [L_len]; omega, h35, hz⟩]
      · refine Ev.pos (by omega) (Ev.const ?_)
        rw [if_neg (fun h => hz h.2.2)]
        rfl
  · have hc : Ev (fun k => impl_Checksum.f k s) ((0 : Int), false) := by
      unfold impl_Checksum.f
      exact Ev.pos (by omega) (Ev.const rfl)
    have h0 : num 0 = [48] := by unfold num; rw [Lib.decDigits, dif_pos (by omega)]; rfl
    refine Ev.bind hc (Ev.pos (by omega) (Ev.bindc (decimal_eq 0 (by omega)) (Ev.pos (by rw [cat_size, tx_size, e1, h0]; simp; omega) (Ev.neg (by simp) (Ev.const ?_)))))
    unfold sealI
    rw [if_neg (fun h => h4 (by have := h.1; rw [L_len] at this; omega))]
    rfl
theorem sealI_good {k : Nat} (hk : k < 1000000) {e : Rec} (h : e.good) : sealI (body k e) = (sealed (body k e), true) := by
  have h1 := body_len h hk
  have h2 := seal_len (body k e)
  unfold sealI
  rw [if_pos ⟨by omega, body_nin35 h, by omega⟩]
/-- What EncodeRecord answers. -/
theorem EncodeRecord_ev (k : Int) (c r : ByteArray) (hc : c.size ≤ 10000000000) (hr : r.size ≤ 10000000000) :
    Ev (fun n => impl_EncodeRecord.f n k c r) (if (0 ≤ k ∧ k ≤ 59) ∧ Rec.good ⟨L c, L r⟩ then (tx (line k.toNat ⟨L c, L r⟩), true) else (tx [], false)) := by
  have e2 : (⟨#[32]⟩ : ByteArray).size = 1 := rfl
  have e3 : (⟨#[64]⟩ : ByteArray).size = 1 := rfl
  unfold impl_EncodeRecord.f
  have bad : Ev (fun n => impl_EncodeRecord.j0 n k true c r) (tx [], false) := Ev.last fun n => by
    simp only [impl_EncodeRecord.j0]
    rw [if_pos trivial]
    rfl
  refine Ev.bindc (in_eq _ _ _) ?_
  by_cases hk : 0 ≤ k ∧ k ≤ 59
  · refine Ev.pos (by simpa using hk) (Ev.bindc (IsValidRecord_eq _ _) ?_)
    by_cases hg : Rec.good ⟨L c, L r⟩
    · rw [if_pos ⟨hk, hg⟩, decide_eq_true hg]
      obtain ⟨m, rfl⟩ : ∃ m : Nat, k = (m : Int) := ⟨k.toNat, by omega⟩
      have hn := num_len_small (show m < 1000000 by omega)
      have hb : cat (cat (cat (cat (tx (num m)) ⟨#[32]⟩) c) ⟨#[64]⟩) r = tx (body m ⟨L c, L r⟩) := by
        apply L_inj
        simp only [L_cat, L_tx, L_one]
        simp [body]
      have hbl := body_len hg (show m < 1000000 by omega)
      have ac := AppendChecksum_ev (tx (body m ⟨L c, L r⟩)) (by rw [tx_size]; omega)
      rw [L_tx, sealI_good (by omega) hg] at ac
      have hsl := seal_len (body m ⟨L c, L r⟩)
      refine Ev.step (f := fun n => (impl_decimal.f (m : Int)).bind fun t176 => (if t176.size + 1 ≤ 9223372036854775807 then (if (cat t176 (⟨#[32]⟩ : ByteArray)).size + c.size ≤ 9223372036854775807 then (if (cat (cat t176 (⟨#[32]⟩ : ByteArray)) c).size + 1 ≤ 9223372036854775807 then (if (cat (cat (cat t176 (⟨#[32]⟩ : ByteArray)) c) (⟨#[64]⟩ : ByteArray)).size + r.size ≤ 9223372036854775807 then ((impl_AppendChecksum.f n (cat (cat (cat (cat t176 (⟨#[32]⟩ : ByteArray)) c) (⟨#[64]⟩ : ByteArray)) r)).bind fun bt177 => (if bt177.1.size + 1 ≤ 9223372036854775807 then (some (cat bt177.1 (⟨#[10]⟩ : ByteArray), true)) else (none))) else (none)) else (none)) else (none)) else (none))) (fun n => ?_) ?_
      · simp only [impl_EncodeRecord.j0]
        rw [if_neg (by simp)]
      · refine Ev.bindc (decimal_eq m (by omega)) (Ev.pos (by rw [tx_size]; omega) (Ev.pos (by simp only [cat_size, tx_size, e2]; omega) (Ev.pos (by simp only [cat_size, tx_size, e2]; omega) (Ev.pos (by simp only [cat_size, tx_size, e2, e3]; omega) ?_))))
        rw [hb]
        refine Ev.bind ac (Ev.pos (by show (tx (sealed (body m ⟨L c, L r⟩))).size + 1 ≤ _; rw [tx_size]; omega) (Ev.const (congrArg some ?_)))
        have : cat (tx (sealed (body m ⟨L c, L r⟩))) ⟨#[10]⟩ = tx (line m ⟨L c, L r⟩) := by
          apply L_inj
          simp only [L_cat, L_tx, L_one]
          rfl
        rw [this]
        simp
    · rw [if_neg (fun h => hg h.2), decide_eq_false hg]
      exact bad
  · rw [if_neg (fun h => hk h.1)]
    exact Ev.neg (by simpa using hk) bad
theorem Cut_eq (s : ByteArray) (b : UInt8) (hs : s.size < 4294967281) : ∃ q, strings_Cut.f s ⟨#[b]⟩ = some (tx (upto b (L s)), tx (past b (L s)), q) := by
  refine ⟨(Lib.cut s.data.toList [b]).2.2, ?_⟩
  unfold strings_Cut.f
  rw [if_pos hs]
  have := cut_one b (L s)
  show some ((⟨(Lib.cut (L s) [b]).1.toArray⟩ : ByteArray), (⟨(Lib.cut (L s) [b]).2.1.toArray⟩ : ByteArray), (Lib.cut (L s) [b]).2.2) = _
  rw [this.1, this.2]
  rfl
theorem VerifyChecksum_ev (s : ByteArray) (hs : s.size ≤ 1000000000) :
    Ev (fun k => impl_VerifyChecksum.f k s) (if (sealI (upto 35 (L s))).2 = true ∧ (sealI (upto 35 (L s))).1 = L s then (tx (upto 35 (L s)), true) else (tx [], false)) := by
  unfold impl_VerifyChecksum.f
  obtain ⟨q, hq⟩ := Cut_eq s 35 (by omega)
  have hu := upto_len 35 (L s)
  rw [L_len] at hu
  have ac := AppendChecksum_ev (tx (upto 35 (L s))) (by rw [tx_size]; omega)
  rw [L_tx] at ac
  refine Ev.bindc hq (Ev.bind ac ?_)
  by_cases h1 : (sealI (upto 35 (L s))).2 = true
  · by_cases h2 : (sealI (upto 35 (L s))).1 = L s
    · have hr : (if (sealI (upto 35 (L s))).2 = true ∧ (sealI (upto 35 (L s))).1 = L s then (tx (upto 35 (L s)), true) else (tx [], false)) = (tx (upto 35 (L s)), true) := if_pos ⟨h1, h2⟩
      rw [hr]
      refine Ev.pos h1 (Ev.pos ?_ (Ev.const rfl))
      rw [h2]; rfl
    · have hr : (if (sealI (upto 35 (L s))).2 = true ∧ (sealI (upto 35 (L s))).1 = L s then (tx (upto 35 (L s)), true) else (tx [], false)) = (tx [], false) := if_neg fun h => h2 h.2
      rw [hr]
      refine Ev.pos h1 (Ev.neg (fun h => h2 ?_) (Ev.const rfl))
      have h' : (tx (sealI (upto 35 (L s))).1).toList = s.toList := h
      rw [toList_L, toList_L, L_tx] at h'
      exact h'
  · have hr : (if (sealI (upto 35 (L s))).2 = true ∧ (sealI (upto 35 (L s))).1 = L s then (tx (upto 35 (L s)), true) else (tx [], false)) = (tx [], false) := if_neg fun h => h1 h.1
    rw [hr]
    exact Ev.neg h1 (Ev.const rfl)
theorem past_len (b : UInt8) (l : List UInt8) : (past b l).length ≤ l.length := by
  induction l with
  | nil => simp [past]
  | cons a l ih =>
    unfold past
    split
    · simp
    · simp; omega
/-- The answer of cutRecord: the first record and its length. -/
def cutR (k : Nat) (l : List UInt8) : ByteArray × ByteArray × Int :=
  match first k l with
  | some e => (tx e.c, tx e.r, ((line k e).length : Int))
  | none => (tx [], tx [], 0)
theorem cutRecord_ev (k : Nat) (hk : k ≤ 59) (s : ByteArray) (hs : s.size ≤ 1000000000) : Ev (fun n => impl_cutRecord.f n s (k : Int)) (cutR k (L s)) := by
  unfold impl_cutRecord.f
  obtain ⟨q1, hq1⟩ := Cut_eq s 10 (by omega)
  have hu1 := upto_len 10 (L s)
  rw [L_len] at hu1
  have hu2 := upto_len 35 (upto 10 (L s))
  have vc := VerifyChecksum_ev (tx (upto 10 (L s))) (by rw [tx_size]; omega)
  rw [L_tx] at vc
  obtain ⟨bd, ok, hbd, hbl, hbd2⟩ : ∃ (bd : List UInt8) (ok : Bool), (if (sealI (upto 35 (upto 10 (L s)))).2 = true ∧ (sealI (upto 35 (upto 10 (L s)))).1 = upto 10 (L s) then (tx (upto 35 (upto 10 (L s))), true) else (tx [], false)) = (tx bd, ok) ∧ bd.length ≤ s.size ∧
      ((sealI (upto 35 (upto 10 (L s)))).2 = true ∧ (sealI (upto 35 (upto 10 (L s)))).1 = upto 10 (L s) → bd = upto 35 (upto 10 (L s))) := by
    by_cases h : (sealI (upto 35 (upto 10 (L s)))).2 = true ∧ (sealI (upto 35 (upto 10 (L s)))).1 = upto 10 (L s)
    · exact ⟨_, true, by rw [if_pos h], by omega, fun _ => rfl⟩
    · exact ⟨[], false, by rw [if_neg h], by simp, fun h' => absurd h' h⟩
  rw [hbd] at vc
  have hp1 := past_len 32 bd
  have hp2 := past_len 64 (past 32 bd)
  have hp3 := upto_len 64 (past 32 bd)
  obtain ⟨q2, hq2⟩ := Cut_eq (tx bd) 32 (by rw [tx_size]; omega)
  rw [L_tx] at hq2
  obtain ⟨q3, hq3⟩ := Cut_eq (tx (past 32 bd)) 64 (by rw [tx_size]; omega)
  rw [L_tx] at hq3
  obtain ⟨e, he⟩ : ∃ e : Rec, e = ⟨upto 64 (past 32 bd), past 64 (past 32 bd)⟩ := ⟨_, rfl⟩
  have ec : upto 64 (past 32 bd) = e.c := by rw [he]
  have er : past 64 (past 32 bd) = e.r := by rw [he]
  have en := EncodeRecord_ev (k : Int) (tx e.c) (tx e.r) (by rw [tx_size, ← ec]; omega) (by rw [tx_size, ← er]; omega)
  rw [L_tx, L_tx] at en
  rw [ec, er] at hq3
  refine Ev.bindc hq1 (Ev.bind vc (Ev.bindc hq2 (Ev.bindc hq3 ?_)))
  have bad : ∀ x, Ev (fun n => impl_cutRecord.j0 n x true (tx e.c) (tx e.r)) (tx [], tx [], 0) := fun x => Ev.last fun n => by
    simp only [impl_cutRecord.j0]
    rw [if_pos trivial]
    rfl
  by_cases hg : e.good
  · rw [if_pos ⟨⟨by omega, by omega⟩, hg⟩] at en
    refine Ev.bind en (Ev.pos rfl ?_)
    have hpre : strings_HasPrefix.f s (tx (line (k : Int).toNat ⟨e.c, e.r⟩)) = some (decide (line k e <+: L s)) := by
      unfold strings_HasPrefix.f
      refine congrArg some ?_
      show Lib.hasPrefix (L s) (L (tx (line k e))) = _
      rw [L_tx, Bool.eq_iff_iff]
      simp [Lib.hasPrefix, List.isPrefixOf_iff_prefix]
    refine Ev.bindc hpre ?_
    by_cases hl : line k e <+: L s
    · have hf : first k (L s) = some e := first_some.2 ⟨hg, hl⟩
      rw [decide_eq_true hl]
      have : cutR k (L s) = (tx e.c, tx e.r, ((line k e).length : Int)) := by unfold cutR; rw [hf]
      rw [this]
      refine Ev.last fun n => ?_
      simp only [impl_cutRecord.j0]
      rw [if_neg (by simp), tx_size]
      rfl
    · rw [decide_eq_false hl]
      have hf : first k (L s) = none := by
        refine first_none.2 fun e' he' hl' => hl ?_
        obtain ⟨t, ht⟩ := hl'
        have h1 : upto 10 (L s) = sealed (body k e') := by rw [← ht]; exact line_upto he' t
        have h2 : upto 35 (upto 10 (L s)) = body k e' := by rw [h1]; exact seal_upto (body_nin35 he')
        have h3 := hbd2 (by rw [h2, sealI_good (by omega) he', h1]; exact ⟨rfl, rfl⟩)
        rw [h2] at h3
        rw [h3, body_past, good_upto he', good_past he'] at he
        rw [he]
        exact ⟨t, ht⟩
      have : cutR k (L s) = (tx [], tx [], 0) := by unfold cutR; rw [hf]
      rw [this]
      exact bad _
  · rw [if_neg (fun h => hg h.2)] at en
    refine Ev.bind en (Ev.neg (by simp) ?_)
    have hf : first k (L s) = none := by
      refine first_none.2 fun e' he' hl' => hg ?_
      obtain ⟨t, ht⟩ := hl'
      have h1 : upto 10 (L s) = sealed (body k e') := by rw [← ht]; exact line_upto he' t
      have h2 : upto 35 (upto 10 (L s)) = body k e' := by rw [h1]; exact seal_upto (body_nin35 he')
      have h3 := hbd2 (by rw [h2, sealI_good (by omega) he', h1]; exact ⟨rfl, rfl⟩)
      rw [h2] at h3
      rw [h3, body_past, good_upto he', good_past he'] at he
      rw [he]
      exact he'
    have : cutR k (L s) = (tx [], tx [], 0) := by unfold cutR; rw [hf]
    rw [this]
    exact bad _
end Go.Proofs.YtokmidpeeejahaaDoor.G
