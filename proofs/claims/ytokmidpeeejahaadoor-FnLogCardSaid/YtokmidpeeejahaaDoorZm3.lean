/- Texts of this seat, joined: what the claim's last text rests on. Some began as words of the kit's print; what is not needed is left out. -/
import Derived.Test.YtokmidpeeejahaaDoorProg
import Derived.Below
import Derived.Deep.Draws
import Derived.Deep.AppendLies
import Derived.Maps.AppendAt
import Derived.OwnWalk
import Derived.Laws.BytesArg
import Derived.Laws.MakeOwn
import Derived.Laws.OwnMore
import Derived.Deep.OwnRows
import Derived.Tactics
import Derived.Lib.ConvBytes
import Derived.Laws.Slices
import Derived.WalkKit
import Derived.KernelRfl
import Derived.RowKit3
import Derived.Deep.LoopGhost
import Derived.Deep.QuietTactic
import Derived.BigQuiet
import Derived.WideLaws
import Derived.Deep.DeepCutAuto
import Derived.Deep.CutBlock
import Derived.Deep.RegionHeld3
import Derived.Laws.Rows
import Derived.Lib.AppendStr
import Derived.ArgAppend
import Derived.Laws.IdiomCopy
import Derived.OrdersHeld
import Derived.Laws.BitsLemmas
import Derived.RowKit
import Derived.IntWalk
import Derived.Lib.ItoaNum
import Derived.Lib.Hide
import Derived.Lib.SmallJoins
import Derived.Lib.AppendIntMem
import Derived.Lib.LaidTab
import Derived.Lib.SliceRun
import Derived.Test.YtokmidpeeejahaaDoorZm1
import Derived.Test.YtokmidpeeejahaaDoorZm0
import Derived.Test.YtokmidpeeejahaaDoorZm2
-- Written by a program of this session (wip/pd.py), which calls the kit's print; externals' contracts by hand.
namespace Go.Proofs.YtokmidpeeejahaaDoor.G
open Go.Proofs.YtokmidpeeejahaaDoorQ
open Go.RowKit Go.Proofs.YtokmidpeeejahaaDoorW.PrintWords Go.Proofs.YtokmidpeeejahaaDoorW.PrintLast Go.Proofs.YtokmidpeeejahaaDoorW.PrintMore
attribute [local go_sem] max2_int min2_int max_two min_two max_three min_three max_four min_four   -- for this text's walks alone
set_option linter.unusedVariables false
set_option linter.unusedSimpArgs false



def errW : Option Int → Value
  | none => .nilIface
  | some c => .iface 0 (.int .i64 c)
theorem errW_none : errW none = .nilIface := rfl
theorem errW_some (c : Int) : errW (some c) = .iface 0 (.int .i64 c) := rfl

theorem info3 : (Tryd.prog.info? 3).map (fun i => (i.zero, i.size, i.bytes)) = some (some (.int .i64 0), 1, 8) := by kernel_rfl
theorem info5 : (Tryd.prog.info? 5).map (fun i => (i.zero, i.size, i.bytes)) = some (some (.int .u8 0), 1, 1) := by kernel_rfl
theorem info9 : (Tryd.prog.info? 9).map (fun i => (i.zero, i.size, i.bytes)) = some (some (.string ⟨#[]⟩), 1, 16) := by kernel_rfl
theorem info40 : (Tryd.prog.info? 40).map (fun i => (i.zero, i.size, i.bytes)) = some (some (.agg #[(.string ⟨#[]⟩), (.string ⟨#[]⟩)]), 2, 32) := by kernel_rfl
-- the values' own types
/-! #### struct type 40 -/
structure S40 where
  f0 : ByteArray
  f1 : ByteArray
def z40 : S40 := ⟨(⟨#[]⟩ : ByteArray), (⟨#[]⟩ : ByteArray)⟩
def k40 : Kd S40 := Kd.iso (Kd.pair Kd.string Kd.string) (fun x : S40 => (x.f0, x.f1))
theorem k40_open {w : World} {x : S40} {cs : List Value} (h : k40.K w x cs) : cs = [.string x.f0, .string x.f1] := by
  obtain ⟨_, _, rfl, rfl, rfl⟩ := h
  exact rfl
theorem k40_mkM (w : World) (base : Nat) (ok : Nat → Prop) (x : S40)  : k40.M w base ok x [.string x.f0, .string x.f1] := ⟨[.string x.f0], [.string x.f1], rfl, rfl, rfl⟩
def rd_T40 (xs : List S40) (i : Int) : S40 := xs.getD i.toNat z40
theorem at_T40 {w : World} {A : Option Addr} {n : Nat} {xs : List S40} (h : Kd.C k40 w A n xs) (i : Int) (h0 : 0 ≤ i) (h1 : i < n) : ∃ ad , A = some ad ∧ w.cell? (ad.add (i.toNat * 2)) = some (.string (rd_T40 xs i).f0) ∧ w.cell? ⟨(ad.add (i.toNat * 2)).block, (ad.add (i.toNat * 2)).off + 1, none⟩ = some (.string (rd_T40 xs i).f1) := by
  obtain ⟨ad, c, e, _, hK, hc0⟩ := Kd.C_get h z40 i h0 h1
  have hc : ∀ j u, c[j]? = some u → w.cell? (ad.add (i.toNat * 2 + j)) = some u := hc0
  obtain rfl := k40_open hK
  exact ⟨ad, e, hc 0 _ rfl, by rw [← add_field _ _ 1 (by omega)]; exact hc 1 _ rfl⟩

/-! #### struct type 26 -/
structure S26 where
  f0 : ByteArray
  f1 : ByteArray
  f2 : Int
/-- A string's '+', and a cut of a string: names that the walk's simp doesn't look behind. -/
def cat (a b : ByteArray) : ByteArray := a ++ b
def subs (s : ByteArray) (i j : Nat) : ByteArray := s.extract i j
section
variable {P : Program} (w : World)
theorem run_add_cat (a b : ByteArray) : (Op.stringOp .add a b).run P w =
    if a.size + b.size > 9223372036854775807 then .halt (.unsupported (.resourceLimit "string concatenation: a sum of the lengths that is no int")) w else .ok (.string (cat a b)) w := run_string_add_if w a b
theorem run_slice_cat (t : TypeId) (s : ByteArray) (k k' : IntKind) (i j : Int) (h : P.underlying t = some .string) (h0 : 0 ≤ i) (h1 : i ≤ j) (h2 : j ≤ s.size) :
    (Instr.slice t (.string s) (some (.int k i)) (some (.int k' j)) none).run P w = .ok (.string (subs s i.toNat j.toNat)) w := run_slice_string w t s k k' i j h h0 h1 h2
theorem run_slice_cat_h (t : TypeId) (s : ByteArray) (ht : P.underlying t = some .string) (kh : IntKind) (h : Int) (h0 : 0 ≤ h) (h2 : h ≤ s.size) :
    (Instr.slice t (.string s) none (some (.int kh h)) none).run P w = .ok (.string (subs s 0 h.toNat)) w := by simpa [subs] using run_slice_string_h w t s ht kh h h0 h2
theorem run_slice_cat_l (t : TypeId) (s : ByteArray) (ht : P.underlying t = some .string) (kl : IntKind) (l : Int) (h0 : 0 ≤ l) (h1 : l ≤ s.size) :
    (Instr.slice t (.string s) (some (.int kl l)) none none).run P w = .ok (.string (subs s l.toNat s.size)) w := by simpa [subs] using run_slice_string_l w t s ht kl l h0 h1
theorem run_slice_cat_all (t : TypeId) (s : ByteArray) (ht : P.underlying t = some .string) :
    (Instr.slice t (.string s) none none none).run P w = .ok (.string (subs s 0 s.size)) w := by simpa [subs] using run_slice_string_all w t s ht
end
/-- What calls of the library lean on: 'bytealg.MaxLen' holds some number, the table of powers of ten is as its text lays it. -/
def Gl (w : World) : Prop := (∃ m, w.cell? ⟨0, 0, none⟩ = some (.int .i64 m)) ∧ Lib.TabIs Tryd.prog w "internal/strconv.uint64pow10" .u64 Lib.pow10Tab
theorem gPow : Tryd.prog.globalNamed "internal/strconv.uint64pow10" = some 1 := by kernel_rfl
theorem Gl.below {w w' : World} (h : Gl w) (hb : Below w.heap.size w w') : Gl w' :=
  ⟨let ⟨m, hm⟩ := h.1; ⟨m, pw_cell_below hb hm⟩, Joins.tab_stays gPow h.2 hb (Nat.le_refl _)⟩
theorem below_bytesWorld (w : World) (e : TypeId) (s : ByteArray) : Below w.heap.size w (Lib.bytesWorld w e s) :=
  ⟨rfl, rfl, rfl, by rw [Lib.bytesWorld_size]; omega, fun j hj => Lib.bytesWorld_at_old w e s j hj⟩
end Go.Proofs.YtokmidpeeejahaaDoor.G

-- Written by a program of this session (wip/pd.py), which calls the kit's print; externals' contracts by hand.
namespace Go.Proofs.YtokmidpeeejahaaDoor.G
open Go.Proofs.YtokmidpeeejahaaDoorQ
open Go.RowKit Go.Proofs.YtokmidpeeejahaaDoorW.PrintWords Go.Proofs.YtokmidpeeejahaaDoorW.PrintLast Go.Proofs.YtokmidpeeejahaaDoorW.PrintMore
attribute [local go_sem] max2_int min2_int max_two min_two max_three min_three max_four min_four   -- for this text's walks alone
set_option linter.unusedVariables false
set_option linter.unusedSimpArgs false

section
attribute [local go_sem high] run_add_cat run_slice_cat run_slice_cat_h run_slice_cat_l run_slice_cat_all
/-! ### laws_szLog: function 11 -/
end

section
attribute [local go_sem high] run_add_cat run_slice_cat run_slice_cat_h run_slice_cat_l run_slice_cat_all
/-! ### spec_l1Split: function 65 -/
def spec_l1Split.l0 : Nat → ByteArray → Int → List ByteArray → Int → Int → Option (List ByteArray)
  | 0, _, _, _, _, _ => none
  | k + 1, x0, x1, x5, x6, x7 => if x7 < (x0.size : Int) then (if 0 ≤ x7 then (if (bt x0 x7) = x1 then (if 0 ≤ x6 then (if x6 ≤ x7 then (if x7 ≤ (x0.size : Int) then (if x5.length < 8796093022208 then (spec_l1Split.l0 k x0 x1 (x5 ++ [subs x0 (x6 : Int).toNat (x7 : Int).toNat]) (wrap64 (x7 + 1)) (wrap64 (x7 + 1))) else (none)) else (none)) else (none)) else (none)) else (spec_l1Split.l0 k x0 x1 x5 x6 (wrap64 (x7 + 1)))) else (none)) else (if 0 ≤ x6 then (if x6 ≤ (x0.size : Int) then (if x5.length < 8796093022208 then (some (x5 ++ [subs x0 (x6 : Int).toNat x0.size])) else (none)) else (none)) else (none))
def spec_l1Split.f (k : Nat) (a0 : ByteArray) (a1 : Int) : Option (List ByteArray) := spec_l1Split.l0 k a0 a1 (([] : List ByteArray)) 0 0
set_option maxHeartbeats 8000000 in
set_option maxRecDepth 100000 in
theorem spec_l1Split.calls (k : Nat) (a0 : ByteArray) (a1 : Int) (r : List ByteArray) (w : World) (h : spec_l1Split.f k a0 a1 = some r) :
    Calls Tryd.prog 65 #[.string a0, .int .u8 a1] w fun e w' => ∃ v0_ : Value, e = .returned (v0_) ∧ Kd.R Kd.string 9 w' w.heap.size (fun _ => True) v0_ r ∧ Below w.heap.size w w' := by
  have HB := Aside0.mk (Below.refl w.heap.size w)
  have H : (spec_l1Split.l0 k a0 a1 (([] : List ByteArray)) 0 0) = some r := h
  clear h
  obtain ⟨y102, hy102⟩ : ∃ y_ : List ByteArray, y_ = (([] : List ByteArray)) := ⟨_, rfl⟩
  replace H : (spec_l1Split.l0 k a0 a1 y102 0 0) = some r := by first | (rw [hy102]; with_reducible exact H) | (have H2_ := (Option.bind_some _ _).symm.trans H; rw [hy102]; with_reducible exact H2_) | (have H2_ := (Option.bind_some _ _).symm.trans H; with_reducible exact H2_) | with_reducible exact H | (rw [hy102]; exact H) | exact H
  have Ny102 := Aside0.mk hy102
  clear hy102
  have H' := Aside0.mk H
  clear H
  go_enter Tryd.func65, Tryd.ntmps65
  go_wp2_with (first | ((with_reducible refine gate_dst (N := 8) rfl ?_); refine Kd.R_lit Kd.string _ 9 ?hg (N := 8) ?hd (xs := ([] : List ByteArray)) (inner := []) (ok := fun _ => True) (okp := fun _ => True) ?hr ?hp (fun _ hk => hk) trivial (Below.refl _ _) (Nat.le_refl _) (by simp) ?_; (case hd => rfl); (case hg => rfl); (case hr => exact zz2); (case hp => exact (Reps.none _ _)); intro v103 w3 ho4 hb hg_ hnew_; clear hg_ hnew_; (first | rw [← Ny102.out] at ho4 | (simp only [Int.reduceToNat] at ho4; rw [← Ny102.out] at ho4)); refine qs2 (Kd.R_lower ho4 (below_size zz20)) (below_step zz20 hb) ?_; clear HB; intro HO104 HB; clear hb ho4))
  go_loopg [5, 6, 7] k (fun kq v5 v6 v7 w' => ∃ (x5_1 : List ByteArray) (x6_1 : Int) (x7_1 : Int), v6 = .int .i64 x6_1 ∧ v7 = .int .i64 x7_1 ∧ Aside0 (spec_l1Split.l0 kq a0 a1 x5_1 x6_1 x7_1 = some r) ∧ Aside0 (kq ≤ k) ∧ Aside0 (Kd.R Kd.string 9 w' w.heap.size (fun _ => True) v5 x5_1) ∧ Aside0 (Below w.heap.size w w'))
  case atStart => exact ⟨(y102), (0), (0), zz3, zz3, H', ⟨Nat.le_refl _⟩, ⟨by (with_reducible repeat (first | apply Kd.R_alloc | apply Kd.R_drewN | apply Kd.R_drew)); exact HO104.out⟩, ⟨zz20⟩⟩
  case round =>
    clear H'
    try clear p2
    obtain ⟨x5_1, x6_1, x7_1, rfl, rfl, HA, HK1, HO_5, HB⟩ := hrel
    cases gk with
    | zero => exact absurd HA.out (by simp [spec_l1Split.l0])
    | succ k1 =>
      have H := HA.out
      clear HA
      simp only [spec_l1Split.l0] at H
      by_cases c5 : x7_1 < (a0.size : Int)
      rotate_left
      · rw [if_neg c5] at H
        have c5b0 := decide_eq_false c5
        clear c5
        by_cases c14 : 0 ≤ x6_1
        rotate_left
        · rw [if_neg c14] at H
          exact absurd H (by simp)
        rw [if_pos c14] at H
        have c14b0 := eq_true c14
        have c14b1 := decide_eq_true c14
        clear c14
        by_cases c15 : x6_1 ≤ (a0.size : Int)
        rotate_left
        · rw [if_neg c15] at H
          exact absurd H (by simp)
        rw [if_pos c15] at H
        have c15b0 := eq_true c15
        have c15b1 := decide_eq_true c15
        clear c15
        by_cases c16 : x5_1.length < 8796093022208
        rotate_left
        · rw [if_neg c16] at H
          exact absurd H (by simp)
        rw [if_pos c16] at H
        have LMc16 := Aside0.mk c16
        clear c16
        obtain ⟨y108, hy108⟩ : ∃ y_ : List ByteArray, y_ = (x5_1 ++ [subs a0 (x6_1 : Int).toNat a0.size]) := ⟨_, rfl⟩
        replace H : (some y108) = some r := by first | (rw [hy108]; with_reducible exact H) | (have H2_ := (Option.bind_some _ _).symm.trans H; rw [hy108]; with_reducible exact H2_) | (have H2_ := (Option.bind_some _ _).symm.trans H; with_reducible exact H2_) | with_reducible exact H | (rw [hy108]; exact H) | exact H
        have Ny108 := Aside0.mk hy108
        clear hy108
        obtain rfl := Option.some.inj H
        go_wp2_with (first | ((with_reducible refine gate_builtin (b := .append) (xs := #[.tmp 29, .tmp 33]) rfl ?_); at_builtin; refine Kd.R_append Kd.string (w0 := w) w.heap.size rfl (.tmp 29) (.tmp 33) 86 9 (.string ⟨#[]⟩) 16 rfl Tryd.underlying86 info9 rfl (by decide) (by omega) u5 x5_1 (subs a0 (x6_1 : Int).toNat a0.size) [.string (subs a0 (x6_1 : Int).toNat a0.size)] (fun _ => True) (fun _ => False) rfl rfl ?aP (fun _ hk => hk.elim) ?aF ?aO ?aB ?aS ?aL ?_; (case aP => exact rfl); (case aB => exact zz20); (case aF => exact (fun _ _ => trivial)); (case aO => exact (qr HO_5.out)); (case aS => exact (below_size zz20)); (case aL => have := LMc16.out; omega); intro v109 w17 ho hb hg hat; rw [← Ny108.out] at ho; refine qs2 (hb) (ho) ?_; clear HB HO_5; intro HB HO110; clear ho hb hg hat))
        go_ret
        exact ⟨_, zz7, by (with_reducible repeat (first | apply Kd.R_alloc | apply Kd.R_drewN | apply Kd.R_drew)); exact HO110.out, zz20⟩
      rw [if_pos c5] at H
      have c5b0 := decide_eq_true c5
      clear c5
      by_cases c6 : 0 ≤ x7_1
      rotate_left
      · rw [if_neg c6] at H
        exact absurd H (by simp)
      rw [if_pos c6] at H
      have c6b0 := decide_eq_true c6
      clear c6
      by_cases c8 : (bt a0 x7_1) = a1
      rotate_left
      · rw [if_neg c8] at H
        have c8b0 := beq_eq_false_iff_ne.mpr c8
        have c8b1 := bne_iff_ne.mpr c8
        have H' := Aside0.mk H
        clear H
        have p7 : 0 ≤ (x7_1 : Int) := of_decide_eq_true zz4
        have q7 : x7_1 < (a0.size : Int) := of_decide_eq_true zz4
        have hx7 := bt_at a0 x7_1
        replace p7 := eq_true p7
        replace q7 := eq_true q7
        go_wp2
        go_roundg k1
        case measure => have := HK1.out; omega
        case rel => exact ⟨(x5_1), (x6_1), (wrap64 (x7_1 + 1)), zz3, zz3, H', ⟨zz0⟩, ⟨by (with_reducible repeat (first | apply Kd.R_alloc | apply Kd.R_drewN | apply Kd.R_drew)); exact HO_5.out⟩, ⟨zz20⟩⟩
      rw [if_pos c8] at H
      have c8b0 := beq_iff_eq.mpr c8
      have c8b1 := bne_eq_false_iff_eq.mpr c8
      clear c8
      by_cases c9 : 0 ≤ x6_1
      rotate_left
      · rw [if_neg c9] at H
        exact absurd H (by simp)
      rw [if_pos c9] at H
      have c9b0 := eq_true c9
      have c9b1 := decide_eq_true c9
      clear c9
      by_cases c10 : x6_1 ≤ x7_1
      rotate_left
      · rw [if_neg c10] at H
        exact absurd H (by simp)
      rw [if_pos c10] at H
      have c10b0 := eq_true c10
      have c10b1 := decide_eq_true c10
      clear c10
      by_cases c11 : x7_1 ≤ (a0.size : Int)
      rotate_left
      · rw [if_neg c11] at H
        exact absurd H (by simp)
      rw [if_pos c11] at H
      have c11b0 := eq_true c11
      have c11b1 := decide_eq_true c11
      clear c11
      by_cases c12 : x5_1.length < 8796093022208
      rotate_left
      · rw [if_neg c12] at H
        exact absurd H (by simp)
      rw [if_pos c12] at H
      have LMc12 := Aside0.mk c12
      clear c12
      obtain ⟨y105, hy105⟩ : ∃ y_ : List ByteArray, y_ = (x5_1 ++ [subs a0 (x6_1 : Int).toNat (x7_1 : Int).toNat]) := ⟨_, rfl⟩
      replace H : (spec_l1Split.l0 k1 a0 a1 y105 (wrap64 (x7_1 + 1)) (wrap64 (x7_1 + 1))) = some r := by first | (rw [hy105]; with_reducible exact H) | (have H2_ := (Option.bind_some _ _).symm.trans H; rw [hy105]; with_reducible exact H2_) | (have H2_ := (Option.bind_some _ _).symm.trans H; with_reducible exact H2_) | with_reducible exact H | (rw [hy105]; exact H) | exact H
      have Ny105 := Aside0.mk hy105
      clear hy105
      have H' := Aside0.mk H
      clear H
      have p7 : 0 ≤ (x7_1 : Int) := of_decide_eq_true zz4
      have q7 : x7_1 < (a0.size : Int) := of_decide_eq_true zz4
      have hx7 := bt_at a0 x7_1
      replace p7 := eq_true p7
      replace q7 := eq_true q7
      go_wp2_with (first | ((with_reducible refine gate_builtin (b := .append) (xs := #[.tmp 20, .tmp 25]) rfl ?_); at_builtin; refine Kd.R_append Kd.string (w0 := w) w.heap.size rfl (.tmp 20) (.tmp 25) 86 9 (.string ⟨#[]⟩) 16 rfl Tryd.underlying86 info9 rfl (by decide) (by omega) u5 x5_1 (subs a0 (x6_1 : Int).toNat (x7_1 : Int).toNat) [.string (subs a0 (x6_1 : Int).toNat (x7_1 : Int).toNat)] (fun _ => True) (fun _ => False) rfl rfl ?aP (fun _ hk => hk.elim) ?aF ?aO ?aB ?aS ?aL ?_; (case aP => exact rfl); (case aB => exact zz20); (case aF => exact (fun _ _ => trivial)); (case aO => exact (qr HO_5.out)); (case aS => exact (below_size zz20)); (case aL => have := LMc12.out; omega); intro v106 w13 ho hb hg hat; rw [← Ny105.out] at ho; refine qs2 (hb) (ho) ?_; clear HB HO_5; intro HB HO107; clear ho hb hg hat))
      go_roundg k1
      case measure => have := HK1.out; omega
      case rel => exact ⟨(y105), (wrap64 (x7_1 + 1)), (wrap64 (x7_1 + 1)), zz3, zz3, H', ⟨zz0⟩, ⟨by (with_reducible repeat (first | apply Kd.R_alloc | apply Kd.R_drewN | apply Kd.R_drew)); exact HO107.out⟩, ⟨zz20⟩⟩

end

section
attribute [local go_sem high] run_add_cat run_slice_cat run_slice_cat_h run_slice_cat_l run_slice_cat_all
/-! ### spec_l1In: function 42 -/
def spec_l1In.f (a0 : Int) (a1 : Int) (a2 : Int) : Option (Bool) := if a0 ≥ a1 then (some (decide (a0 ≤ a2))) else (some false)
set_option maxHeartbeats 8000000 in
set_option maxRecDepth 100000 in
theorem spec_l1In.calls (a0 : Int) (a1 : Int) (a2 : Int) (r : Bool) (w : World) (h : spec_l1In.f a0 a1 a2 = some r) :
    Calls Tryd.prog 42 #[.int .i64 a0, .int .i64 a1, .int .i64 a2] w fun e w' => e = .returned (.bool r) ∧ Drawn0 w w' := by
  have H : (if a0 ≥ a1 then (some (decide (a0 ≤ a2))) else (some false)) = some r := h
  clear h
  by_cases c4 : a0 ≥ a1
  · rw [if_pos c4] at H
    have c4b0 := decide_eq_true c4
    clear c4
    obtain rfl := Option.some.inj H
    go_enter Tryd.func42, Tryd.ntmps42
    go_wp2
    go_ret
    exact ⟨zz3, zz5⟩
  rw [if_neg c4] at H
  have c4b0 := decide_eq_false c4
  clear c4
  obtain rfl := Option.some.inj H
  go_enter Tryd.func42, Tryd.ntmps42
  go_wp2
  go_ret
  exact ⟨zz3, zz5⟩

end

section
attribute [local go_sem high] run_add_cat run_slice_cat run_slice_cat_h run_slice_cat_l run_slice_cat_all
/-! ### spec_l27Plain: function 61 -/
def spec_l27Plain.l0 : Nat → ByteArray → Int → Int → Option (Bool)
  | 0, _, _, _ => none
  | k + 1, x0, x1, x5 => if x5 < (x0.size : Int) then (if 0 ≤ x5 then ((spec_l1In.f (wrap64 (bt x0 x5)) 32 126).bind fun t111 => (if t111 = true then (if (bt x0 x5) = 35 then (some false) else (spec_l27Plain.l0 k x0 x1 (wrap64 (x5 + 1)))) else (some false))) else (none)) else (some (decide ((x0.size : Int) ≤ x1)))
def spec_l27Plain.f (k : Nat) (a0 : ByteArray) (a1 : Int) : Option (Bool) := spec_l27Plain.l0 k a0 a1 0
set_option maxHeartbeats 8000000 in
set_option maxRecDepth 100000 in
theorem spec_l27Plain.calls (k : Nat) (a0 : ByteArray) (a1 : Int) (r : Bool) (w : World) (h : spec_l27Plain.f k a0 a1 = some r) :
    Calls Tryd.prog 61 #[.string a0, .int .i64 a1] w fun e w' => e = .returned (.bool r) ∧ Drawn0 w w' := by
  have H : (spec_l27Plain.l0 k a0 a1 0) = some r := h
  clear h
  have H' := Aside0.mk H
  clear H
  go_enter Tryd.func61, Tryd.ntmps61
  go_wp2
  go_loopg [5] k (fun kq v5 w' => ∃ (x5_1 : Int), v5 = .int .i64 x5_1 ∧ Aside0 (spec_l27Plain.l0 kq a0 a1 x5_1 = some r) ∧ Aside0 (kq ≤ k) ∧ Drawn0 w w')
  case atStart => exact ⟨(0), zz3, H', ⟨Nat.le_refl _⟩, zz5⟩
  case round =>
    clear H'
    try clear p2
    obtain ⟨x5_1, rfl, HA, HK1, ⟨m1, rfl⟩⟩ := hrel
    cases gk with
    | zero => exact absurd HA.out (by simp [spec_l27Plain.l0])
    | succ k1 =>
      have H := HA.out
      clear HA
      simp only [spec_l27Plain.l0] at H
      by_cases c3 : x5_1 < (a0.size : Int)
      rotate_left
      · rw [if_neg c3] at H
        have c3b0 := decide_eq_false c3
        clear c3
        obtain rfl := Option.some.inj H
        go_wp2
        go_ret
        exact ⟨zz3, zz5⟩
      rw [if_pos c3] at H
      have c3b0 := decide_eq_true c3
      clear c3
      by_cases c4 : 0 ≤ x5_1
      rotate_left
      · rw [if_neg c4] at H
        exact absurd H (by simp)
      rw [if_pos c4] at H
      have c4b0 := decide_eq_true c4
      clear c4
      replace H := Option.bind_eq_some_iff.mp H
      obtain ⟨t111, A60, H⟩ := H
      (try dsimp only at H)
      have A6 := Aside0.mk A60
      clear A60
      by_cases c7 : t111 = true
      rotate_left
      · replace c7 := Bool.eq_false_iff.mpr c7
        subst c7
        rw [if_neg (show ¬ (false = true) by decide)] at H
        obtain rfl := Option.some.inj H
        have p5 : 0 ≤ (x5_1 : Int) := of_decide_eq_true zz4
        have q5 : x5_1 < (a0.size : Int) := of_decide_eq_true zz4
        have hx5 := bt_at a0 x5_1
        replace p5 := eq_true p5
        replace q5 := eq_true q5
        go_wp2_with (first | ((with_reducible refine gate_callee (f := 42) rfl ?_); refine qcall 16 Tryd.func42 rfl #[.int .i64 (wrap64 (bt a0 x5_1)), .int .i64 32, .int .i64 126] ?_; (with_reducible refine (spec_l1In.calls (wrap64 (bt a0 x5_1)) 32 126 false _ A6.out).mono ?_); rintro e w' ⟨rfl, ⟨nd, rfl⟩⟩; refine ⟨_, rfl, ?_⟩))
        go_ret
        exact ⟨zz3, zz5⟩
      subst c7
      rw [if_pos rfl] at H
      by_cases c9 : (bt a0 x5_1) = 35
      · rw [if_pos c9] at H
        have c9b0 := beq_iff_eq.mpr c9
        have c9b1 := bne_eq_false_iff_eq.mpr c9
        clear c9
        obtain rfl := Option.some.inj H
        have p5 : 0 ≤ (x5_1 : Int) := of_decide_eq_true zz4
        have q5 : x5_1 < (a0.size : Int) := of_decide_eq_true zz4
        have hx5 := bt_at a0 x5_1
        replace p5 := eq_true p5
        replace q5 := eq_true q5
        go_wp2_with (first | ((with_reducible refine gate_callee (f := 42) rfl ?_); refine qcall 16 Tryd.func42 rfl #[.int .i64 (wrap64 (bt a0 x5_1)), .int .i64 32, .int .i64 126] ?_; (with_reducible refine (spec_l1In.calls (wrap64 (bt a0 x5_1)) 32 126 true _ A6.out).mono ?_); rintro e w' ⟨rfl, ⟨nd, rfl⟩⟩; refine ⟨_, rfl, ?_⟩; have p8 : 0 ≤ (x5_1 : Int) := of_decide_eq_true zz4; have q8 : x5_1 < (a0.size : Int) := of_decide_eq_true zz4; have hx8 := bt_at a0 x5_1; replace p8 := eq_true p8; replace q8 := eq_true q8))
        go_ret
        exact ⟨zz3, zz5⟩
      rw [if_neg c9] at H
      have c9b0 := beq_eq_false_iff_ne.mpr c9
      have c9b1 := bne_iff_ne.mpr c9
      have H' := Aside0.mk H
      clear H
      have p5 : 0 ≤ (x5_1 : Int) := of_decide_eq_true zz4
      have q5 : x5_1 < (a0.size : Int) := of_decide_eq_true zz4
      have hx5 := bt_at a0 x5_1
      replace p5 := eq_true p5
      replace q5 := eq_true q5
      go_wp2_with (first | ((with_reducible refine gate_callee (f := 42) rfl ?_); refine qcall 16 Tryd.func42 rfl #[.int .i64 (wrap64 (bt a0 x5_1)), .int .i64 32, .int .i64 126] ?_; (with_reducible refine (spec_l1In.calls (wrap64 (bt a0 x5_1)) 32 126 true _ A6.out).mono ?_); rintro e w' ⟨rfl, ⟨nd, rfl⟩⟩; refine ⟨_, rfl, ?_⟩; have p8 : 0 ≤ (x5_1 : Int) := of_decide_eq_true zz4; have q8 : x5_1 < (a0.size : Int) := of_decide_eq_true zz4; have hx8 := bt_at a0 x5_1; replace p8 := eq_true p8; replace q8 := eq_true q8))
      go_roundg k1
      case measure => have := HK1.out; omega
      case rel => exact ⟨(wrap64 (x5_1 + 1)), zz3, H', ⟨zz0⟩, zz5⟩

end

section
attribute [local go_sem high] run_add_cat run_slice_cat run_slice_cat_h run_slice_cat_l run_slice_cat_all
/-! ### spec_l1Stands: function 62 -/
def spec_l1Stands.l0 : Nat → ByteArray → Int → Int → Option (Bool)
  | 0, _, _, _ => none
  | k + 1, x0, x1, x5 => if x5 < (x0.size : Int) then (if 0 ≤ x5 then (if (bt x0 x5) = x1 then (some true) else (spec_l1Stands.l0 k x0 x1 (wrap64 (x5 + 1)))) else (none)) else (some false)
def spec_l1Stands.f (k : Nat) (a0 : ByteArray) (a1 : Int) : Option (Bool) := spec_l1Stands.l0 k a0 a1 0
set_option maxHeartbeats 8000000 in
set_option maxRecDepth 100000 in
theorem spec_l1Stands.calls (k : Nat) (a0 : ByteArray) (a1 : Int) (r : Bool) (w : World) (h : spec_l1Stands.f k a0 a1 = some r) :
    Calls Tryd.prog 62 #[.string a0, .int .u8 a1] w fun e w' => e = .returned (.bool r) ∧ Drawn0 w w' := by
  have H : (spec_l1Stands.l0 k a0 a1 0) = some r := h
  clear h
  have H' := Aside0.mk H
  clear H
  go_enter Tryd.func62, Tryd.ntmps62
  go_wp2
  go_loopg [5] k (fun kq v5 w' => ∃ (x5_1 : Int), v5 = .int .i64 x5_1 ∧ Aside0 (spec_l1Stands.l0 kq a0 a1 x5_1 = some r) ∧ Aside0 (kq ≤ k) ∧ Drawn0 w w')
  case atStart => exact ⟨(0), zz3, H', ⟨Nat.le_refl _⟩, zz5⟩
  case round =>
    clear H'
    try clear p2
    obtain ⟨x5_1, rfl, HA, HK1, ⟨m1, rfl⟩⟩ := hrel
    cases gk with
    | zero => exact absurd HA.out (by simp [spec_l1Stands.l0])
    | succ k1 =>
      have H := HA.out
      clear HA
      simp only [spec_l1Stands.l0] at H
      by_cases c3 : x5_1 < (a0.size : Int)
      rotate_left
      · rw [if_neg c3] at H
        have c3b0 := decide_eq_false c3
        clear c3
        obtain rfl := Option.some.inj H
        go_wp2
        go_ret
        exact ⟨zz3, zz5⟩
      rw [if_pos c3] at H
      have c3b0 := decide_eq_true c3
      clear c3
      by_cases c4 : 0 ≤ x5_1
      rotate_left
      · rw [if_neg c4] at H
        exact absurd H (by simp)
      rw [if_pos c4] at H
      have c4b0 := decide_eq_true c4
      clear c4
      by_cases c6 : (bt a0 x5_1) = a1
      · rw [if_pos c6] at H
        have c6b0 := beq_iff_eq.mpr c6
        have c6b1 := bne_eq_false_iff_eq.mpr c6
        clear c6
        obtain rfl := Option.some.inj H
        have p5 : 0 ≤ (x5_1 : Int) := of_decide_eq_true zz4
        have q5 : x5_1 < (a0.size : Int) := of_decide_eq_true zz4
        have hx5 := bt_at a0 x5_1
        replace p5 := eq_true p5
        replace q5 := eq_true q5
        go_wp2
        go_ret
        exact ⟨zz3, zz5⟩
      rw [if_neg c6] at H
      have c6b0 := beq_eq_false_iff_ne.mpr c6
      have c6b1 := bne_iff_ne.mpr c6
      have H' := Aside0.mk H
      clear H
      have p5 : 0 ≤ (x5_1 : Int) := of_decide_eq_true zz4
      have q5 : x5_1 < (a0.size : Int) := of_decide_eq_true zz4
      have hx5 := bt_at a0 x5_1
      replace p5 := eq_true p5
      replace q5 := eq_true q5
      go_wp2
      go_roundg k1
      case measure => have := HK1.out; omega
      case rel => exact ⟨(wrap64 (x5_1 + 1)), zz3, H', ⟨zz0⟩, zz5⟩

end

section
attribute [local go_sem high] run_add_cat run_slice_cat run_slice_cat_h run_slice_cat_l run_slice_cat_all
/-! ### spec_l27Good: function 44 -/
def spec_l27Good.f (k : Nat) (a0_0 : ByteArray) (a0_1 : ByteArray) : Option (Bool) := if a0_0.toList = ([] : List UInt8) then (some false) else ((spec_l27Plain.f k a0_0 160).bind fun t113 => (if t113 = true then ((spec_l1Stands.f k a0_0 64).bind fun t114 => (if t114 = true then (some false) else ((spec_l27Plain.f k a0_1 200).bind fun t115 => (some t115)))) else (some false)))
set_option maxHeartbeats 8000000 in
set_option maxRecDepth 100000 in
theorem spec_l27Good.calls (k : Nat) (a0_0 : ByteArray) (a0_1 : ByteArray) (r : Bool) (w : World) (h : spec_l27Good.f k a0_0 a0_1 = some r) :
    Calls Tryd.prog 44 #[.agg #[.string a0_0, .string a0_1]] w fun e w' => e = .returned (.bool r) ∧ Below w.heap.size w w' := by
  have hu40 := Tryd.underlying40
  have HB := Aside0.mk (Below.refl w.heap.size w)
  unfold spec_l27Good.f at h
  have H := h
  clear h
  by_cases c2 : a0_0.toList = ([] : List UInt8)
  · rw [if_pos c2] at H
    have c2b0 := beq_iff_eq.mpr c2
    have c2b1 := bne_eq_false_iff_eq.mpr c2
    clear c2
    obtain rfl := Option.some.inj H
    go_enter Tryd.func44, Tryd.ntmps44
    go_wp2_with (first | ((with_reducible refine gate_dst (N := 1) rfl ?_); refine qbox (N := 1) (cs := #[.string a0_0, .string a0_1]) (t := 40) ?_; intro gb112 hg w3 hbox hb; refine qs4 (below_step zz20 hb) (hbox) ((zz119 : w.heap.size ≤ gb112)) ((zz119 : w.heap.size ≤ gb112)) ?_; clear HB; intro HB BK112 GW112 GE112; clear hb hbox hg; obtain ⟨hcz4_0, hcz4_1, hfz4_0, hfz4_1⟩ := qc2 BK112.out))
    go_ret
    exact ⟨zz7, zz37⟩
  rw [if_neg c2] at H
  have c2b0 := beq_eq_false_iff_ne.mpr c2
  have c2b1 := bne_iff_ne.mpr c2
  replace H := Option.bind_eq_some_iff.mp H
  obtain ⟨t113, A50, H⟩ := H
  (try dsimp only at H)
  have A5 := Aside0.mk A50
  clear A50
  by_cases c6 : t113 = true
  rotate_left
  · replace c6 := Bool.eq_false_iff.mpr c6
    subst c6
    rw [if_neg (show ¬ (false = true) by decide)] at H
    obtain rfl := Option.some.inj H
    go_enter Tryd.func44, Tryd.ntmps44
    go_wp2_with (first | ((with_reducible refine gate_dst (N := 1) rfl ?_); refine qbox (N := 1) (cs := #[.string a0_0, .string a0_1]) (t := 40) ?_; intro gb112 hg w14 hbox hb; refine qs4 (below_step zz20 hb) (hbox) ((zz119 : w.heap.size ≤ gb112)) ((zz119 : w.heap.size ≤ gb112)) ?_; clear HB; intro HB BK112 GW112 GE112; clear hb hbox hg; obtain ⟨hcz15_0, hcz15_1, hfz15_0, hfz15_1⟩ := qc2 BK112.out) | (go_at_call 61; (with_reducible refine (spec_l27Plain.calls k a0_0 160 false _ A5.out).mono ?_); rintro e w' ⟨rfl, ⟨nd, rfl⟩⟩))
    go_ret
    exact ⟨zz7, zz37⟩
  subst c6
  rw [if_pos rfl] at H
  replace H := Option.bind_eq_some_iff.mp H
  obtain ⟨t114, A70, H⟩ := H
  (try dsimp only at H)
  have A7 := Aside0.mk A70
  clear A70
  by_cases c8 : t114 = true
  · subst c8
    rw [if_pos rfl] at H
    obtain rfl := Option.some.inj H
    go_enter Tryd.func44, Tryd.ntmps44
    go_wp2_with (first | ((with_reducible refine gate_dst (N := 1) rfl ?_); refine qbox (N := 1) (cs := #[.string a0_0, .string a0_1]) (t := 40) ?_; intro gb112 hg w9 hbox hb; refine qs4 (below_step zz20 hb) (hbox) ((zz119 : w.heap.size ≤ gb112)) ((zz119 : w.heap.size ≤ gb112)) ?_; clear HB; intro HB BK112 GW112 GE112; clear hb hbox hg; obtain ⟨hcz10_0, hcz10_1, hfz10_0, hfz10_1⟩ := qc2 BK112.out) | (go_at_call 61; (with_reducible refine (spec_l27Plain.calls k a0_0 160 true _ A5.out).mono ?_); rintro e w' ⟨rfl, ⟨nd, rfl⟩⟩) | (go_at_call 62; (with_reducible refine (spec_l1Stands.calls k a0_0 64 true _ A7.out).mono ?_); rintro e w' ⟨rfl, ⟨nd, rfl⟩⟩))
    go_ret
    exact ⟨zz7, zz37⟩
  replace c8 := Bool.eq_false_iff.mpr c8
  subst c8
  rw [if_neg (show ¬ (false = true) by decide)] at H
  replace H := Option.bind_eq_some_iff.mp H
  obtain ⟨t115, A110, H⟩ := H
  replace H : (some t115) = some r := H
  have A11 := Aside0.mk A110
  clear A110
  obtain rfl := Option.some.inj H
  go_enter Tryd.func44, Tryd.ntmps44
  go_wp2_with (first | ((with_reducible refine gate_dst (N := 1) rfl ?_); refine qbox (N := 1) (cs := #[.string a0_0, .string a0_1]) (t := 40) ?_; intro gb112 hg w12 hbox hb; refine qs4 (below_step zz20 hb) (hbox) ((zz119 : w.heap.size ≤ gb112)) ((zz119 : w.heap.size ≤ gb112)) ?_; clear HB; intro HB BK112 GW112 GE112; clear hb hbox hg; obtain ⟨hcz13_0, hcz13_1, hfz13_0, hfz13_1⟩ := qc2 BK112.out) | (go_at_call 61; (with_reducible refine (spec_l27Plain.calls k a0_0 160 true _ A5.out).mono ?_); rintro e w' ⟨rfl, ⟨nd, rfl⟩⟩) | (go_at_call 62; (with_reducible refine (spec_l1Stands.calls k a0_0 64 false _ A7.out).mono ?_); rintro e w' ⟨rfl, ⟨nd, rfl⟩⟩) | (go_at_call 61; (with_reducible refine (spec_l27Plain.calls k a0_1 200 t115 _ A11.out).mono ?_); rintro e w' ⟨rfl, ⟨nd, rfl⟩⟩))
  go_ret
  exact ⟨zz7, zz37⟩

end

/-! ### spec_l1Num: function 64 (by hand) -/
theorem digit_str : ∀ n : Nat, n < 10 → (⟨#[48, 49, 50, 51, 52, 53, 54, 55, 56, 57]⟩ : ByteArray).extract n (n + 1) = ⟨(Lib.decDigits n).toArray⟩ := by
  intro n hn
  rw [Lib.decDigits, dif_pos hn]
  have : n = 0 ∨ n = 1 ∨ n = 2 ∨ n = 3 ∨ n = 4 ∨ n = 5 ∨ n = 6 ∨ n = 7 ∨ n = 8 ∨ n = 9 := by omega
  rcases this with rfl | rfl | rfl | rfl | rfl | rfl | rfl | rfl | rfl | rfl <;> rfl
theorem nDigits_le : ∀ k u : Nat, 1 ≤ k → u < 10 ^ k → Lib.nDigits u ≤ k := by
  intro k
  induction k with
  | zero => intro u h; omega
  | succ k ih =>
    intro u _ hu
    by_cases h : u < 10
    · rw [Lib.nDigits_small h]; omega
    rw [Lib.nDigits_big h]
    rw [Nat.pow_succ] at hu
    have : u / 10 < 10 ^ k := by omega
    have h1 : 1 ≤ k := by
      rcases Nat.eq_zero_or_pos k with rfl | h1
      · simp at this; omega
      · exact h1
    have := ih (u / 10) h1 this
    omega
theorem ret_str {a b : ByteArray} (h : a = b) : Ending.returned (.string a) = .returned (.string b) := by rw [h]
theorem ba_app (a b : List UInt8) : (⟨a.toArray⟩ : ByteArray) ++ (⟨b.toArray⟩ : ByteArray) = ⟨(a ++ b).toArray⟩ := by
  apply ByteArray.ext
  rw [ByteArray.data_append]
  simp
def bigNat (u : Nat) : Prop := u ≤ 9223372036854775807
set_option maxRecDepth 100000 in
theorem l1Num_nat : ∀ u : Nat, bigNat u → ∀ w : World,
    Calls Tryd.prog 64 #[.int .i64 (u : Int)] w fun e w' => e = .returned (.string ⟨(Lib.decDigits u).toArray⟩) ∧ ∃ m, w' = w.drewN m := by
  intro u
  induction u using Nat.strongRecOn with
  | _ u ih =>
    intro hu w
    by_cases h : u < 10
    · have hd := digit_str u h
      have HD := Lib.hid hd
      clear hd ih
      have hsl := fun w => run_slice_string (P := Tryd.prog) (w := w) 9 ⟨#[48, 49, 50, 51, 52, 53, 54, 55, 56, 57]⟩ .i64 .i64 (u : Int) ((u : Int) + 1) Tryd.underlying9 (by omega) (by omega) (by show _ ≤ ((10 : Nat) : Int); omega)
      go_enter Tryd.func64, Tryd.ntmps64
      go_wp2
      go_ret
      exact ⟨by rw [← HD.out]; rfl, 0, rfl⟩
    obtain ⟨q, hq⟩ : ∃ q : Int, (u : Int) / 10 = q := ⟨_, rfl⟩
    obtain ⟨r, hr⟩ : ∃ r : Int, (u : Int) % 10 = r := ⟨_, rfl⟩
    have ih' : ∀ w, Calls Tryd.prog 64 #[.int .i64 q] w fun e w' => e = .returned (.string ⟨(Lib.decDigits (u / 10)).toArray⟩) ∧ ∃ m, w' = w.drewN m := fun w => by
      have := ih (u / 10) (by omega) (Nat.le_trans (Nat.div_le_self _ _) hu) w
      rwa [show (((u / 10 : Nat) : Int)) = q by omega] at this
    have hd := digit_str (u % 10) (by omega)
    rw [show u % 10 = r.toNat by omega] at hd
    have HD : Hid (Lib.decDigits u = Lib.decDigits (u / 10) ++ Lib.decDigits r.toNat) := by
      unfold Hid
      have e := Lib.decDigits.eq_1 u
      rw [dif_neg h] at e
      rw [e, Lib.decDigits.eq_1 r.toNat, dif_pos (show r.toNat < 10 by omega), show u % 10 = r.toNat by omega]
    have HE := Lib.hid hd
    clear hd ih
    have hr0 : 0 ≤ r := by omega
    have hr1 : r < 10 := by omega
    have hq0 : 0 ≤ q := by omega
    have hq1 : q ≤ 922337203685477580 := by unfold bigNat at hu; omega
    have w1 : wrap64 q = q := by unfold wrap64; omega
    have w2 : IntKind.i64.wrap q = q := IntWalk.i64_in _ (by omega)
    have w3 : wrap64 (r + 1) = r + 1 := by unfold wrap64; omega
    have w4 : IntKind.i64.wrap (r + 1) = r + 1 := IntWalk.i64_in _ (by omega)
    have w5 : (r + 1).toNat = r.toNat + 1 := by omega
    have hsl := fun w => run_slice_string (P := Tryd.prog) (w := w) 9 ⟨#[48, 49, 50, 51, 52, 53, 54, 55, 56, 57]⟩ .i64 .i64 r (r + 1) Tryd.underlying9 (by omega) (by omega) (by show _ ≤ ((10 : Nat) : Int); omega)
    have HL : (Lib.decDigits (u / 10)).length ≤ 30 := by rw [Lib.decDigits_length]; exact nDigits_le 30 _ (by omega) (by unfold bigNat at hu; omega)
    have HU := Lib.hid hu
    have h1 : ¬ (u : Int) < 10 := by omega
    clear hu
    go_enter Tryd.func64, Tryd.ntmps64
    go_wp2
    go_quiet ((go_at_call 64; exact Calls.quiet_of (ih' _)))
    go_wp2_with fail
    go_ret
    exact ⟨ret_str (by rw [HD.out, HE.out]; exact ba_app _ _), nq, rfl⟩
set_option maxRecDepth 100000 in
theorem l1Num_any (a0 : Int) (h0 : -9223372036854775807 ≤ a0) (h1 : a0 ≤ 9223372036854775807) (w : World) :
    Calls Tryd.prog 64 #[.int .i64 a0] w fun e w' => e = .returned (.string ⟨(Lib.itoa a0).toArray⟩) ∧ ∃ m, w' = w.drewN m := by
  rcases (show a0 < 0 ∨ 0 ≤ a0 by omega) with h | h
  · obtain ⟨n, hn⟩ : ∃ n : Nat, -a0 = (n : Int) := ⟨(-a0).toNat, by omega⟩
    have hb : bigNat n := by unfold bigNat; omega
    have hc := l1Num_nat n hb
    have hi : Lib.itoa a0 = [45] ++ Lib.decDigits n := by unfold Lib.itoa; rw [if_pos h, show a0.natAbs = n by omega]; rfl
    have HI := Lib.hid hi
    have HL : (Lib.decDigits n).length ≤ 30 := by rw [Lib.decDigits_length]; exact nDigits_le 30 _ (by omega) (by omega)
    have w1 : wrap64 (-a0) = (n : Int) := by unfold wrap64; omega
    have h' : decide (a0 < 0) = true := decide_eq_true h
    clear hi hb h0 h1 hn h
    go_enter Tryd.func64, Tryd.ntmps64
    go_wp2_with (go_at_call 64; refine (hc _).mono ?_; rintro e w' ⟨rfl, m, rfl⟩)
    go_ret
    exact ⟨ret_str (by rw [HI.out]; exact ba_app _ _), _, rfl⟩
  · obtain ⟨n, rfl⟩ : ∃ n : Nat, a0 = (n : Int) := ⟨a0.toNat, by omega⟩
    have hi : Lib.itoa (n : Int) = Lib.decDigits n := by unfold Lib.itoa; rw [if_neg (by omega)]; simp
    rw [hi]
    exact l1Num_nat n (by unfold bigNat; omega) w
def spec_l1Num.f (a0 : Int) : Option ByteArray := if -9223372036854775807 ≤ a0 ∧ a0 ≤ 9223372036854775807 then some ⟨(Lib.itoa a0).toArray⟩ else none
theorem spec_l1Num.calls (a0 : Int) (r : ByteArray) (w : World) (h : spec_l1Num.f a0 = some r) :
    Calls Tryd.prog 64 #[.int .i64 a0] w fun e w' => e = .returned (.string r) ∧ Below w.heap.size w w' := by
  unfold spec_l1Num.f at h
  split at h
  · rename_i hb
    obtain rfl := Option.some.inj h
    refine (l1Num_any a0 hb.1 hb.2 w).mono ?_
    rintro e w' ⟨he, m, rfl⟩
    exact ⟨he, pw_below_drewN (Below.refl _ _) m⟩
  · cases h


section
attribute [local go_sem high] run_add_cat run_slice_cat run_slice_cat_h run_slice_cat_l run_slice_cat_all
/-! ### spec_l1Sum: function 75 -/
def spec_l1Sum.l0 : Nat → ByteArray → Int → Int → Option (Int)
  | 0, _, _, _ => none
  | k + 1, x0, x3, x4 => if x4 < (x0.size : Int) then (if 0 ≤ x4 then (spec_l1Sum.l0 k x0 (Int.tmod (wrap64 ((wrap64 ((wrap64 (41 * x3)) + (wrap64 (bt x0 x4)))) + 1)) 999979) (wrap64 (x4 + 1))) else (none)) else (some x3)
def spec_l1Sum.f (k : Nat) (a0 : ByteArray) : Option (Int) := spec_l1Sum.l0 k a0 7 0
set_option maxHeartbeats 8000000 in
set_option maxRecDepth 100000 in
theorem spec_l1Sum.calls (k : Nat) (a0 : ByteArray) (r : Int) (w : World) (h : spec_l1Sum.f k a0 = some r) :
    Calls Tryd.prog 75 #[.string a0] w fun e w' => e = .returned (.int .i64 r) ∧ Drawn0 w w' := by
  have H : (spec_l1Sum.l0 k a0 7 0) = some r := h
  clear h
  have H' := Aside0.mk H
  clear H
  go_enter Tryd.func75, Tryd.ntmps75
  go_wp2
  go_loopg [3, 4] k (fun kq v3 v4 w' => ∃ (x3_1 : Int) (x4_1 : Int), v3 = .int .i64 x3_1 ∧ v4 = .int .i64 x4_1 ∧ Aside0 (spec_l1Sum.l0 kq a0 x3_1 x4_1 = some r) ∧ Aside0 (kq ≤ k) ∧ Drawn0 w w')
  case atStart => exact ⟨(7), (0), zz3, zz3, H', ⟨Nat.le_refl _⟩, zz5⟩
  case round =>
    clear H'
    obtain ⟨x3_1, x4_1, rfl, rfl, HA, HK1, ⟨m1, rfl⟩⟩ := hrel
    cases gk with
    | zero => exact absurd HA.out (by simp [spec_l1Sum.l0])
    | succ k1 =>
      have H := HA.out
      clear HA
      simp only [spec_l1Sum.l0] at H
      by_cases c2 : x4_1 < (a0.size : Int)
      rotate_left
      · rw [if_neg c2] at H
        have c2b0 := decide_eq_false c2
        clear c2
        obtain rfl := Option.some.inj H
        go_wp2
        go_ret
        exact ⟨zz3, zz5⟩
      rw [if_pos c2] at H
      have c2b0 := decide_eq_true c2
      clear c2
      by_cases c3 : 0 ≤ x4_1
      rotate_left
      · rw [if_neg c3] at H
        exact absurd H (by simp)
      rw [if_pos c3] at H
      have c3b0 := decide_eq_true c3
      clear c3
      have H' := Aside0.mk H
      clear H
      have p4 : 0 ≤ (x4_1 : Int) := of_decide_eq_true zz4
      have q4 : x4_1 < (a0.size : Int) := of_decide_eq_true zz4
      have hx4 := bt_at a0 x4_1
      replace p4 := eq_true p4
      replace q4 := eq_true q4
      go_wp2
      go_roundg k1
      case measure => have := HK1.out; omega
      case rel => exact ⟨(Int.tmod (wrap64 ((wrap64 ((wrap64 (41 * x3_1)) + (wrap64 (bt a0 x4_1)))) + 1)) 999979), (wrap64 (x4_1 + 1)), zz3, zz3, H', ⟨zz0⟩, zz5⟩

end

section
attribute [local go_sem high] run_add_cat run_slice_cat run_slice_cat_h run_slice_cat_l run_slice_cat_all
/-! ### spec_l1Seal: function 63 -/
def spec_l1Seal.f (k : Nat) (a0 : ByteArray) : Option (ByteArray) := if a0.size + 1 ≤ 9223372036854775807 then ((spec_l1Sum.f k a0).bind fun t116 => ((spec_l1Num.f t116).bind fun t117 => (if (cat a0 (⟨#[35]⟩ : ByteArray)).size + t117.size ≤ 9223372036854775807 then (some (cat (cat a0 (⟨#[35]⟩ : ByteArray)) t117)) else (none)))) else (none)
set_option maxHeartbeats 8000000 in
set_option maxRecDepth 100000 in
theorem spec_l1Seal.calls (k : Nat) (a0 : ByteArray) (r : ByteArray) (w : World) (h : spec_l1Seal.f k a0 = some r) :
    Calls Tryd.prog 63 #[.string a0] w fun e w' => e = .returned (.string r) ∧ Below w.heap.size w w' := by
  have HB := Aside0.mk (Below.refl w.heap.size w)
  unfold spec_l1Seal.f at h
  have H := h
  clear h
  by_cases c2 : a0.size + 1 ≤ 9223372036854775807
  rotate_left
  · rw [if_neg c2] at H
    exact absurd H (by simp)
  rw [if_pos c2] at H
  have c2b0 := eq_true c2
  have c2b1 := decide_eq_true c2
  try have c2b2 := eq_false (Nat.not_lt.2 c2)
  clear c2
  replace H := Option.bind_eq_some_iff.mp H
  obtain ⟨t116, A30, H⟩ := H
  (try dsimp only at H)
  have A3 := Aside0.mk A30
  clear A30
  replace H := Option.bind_eq_some_iff.mp H
  obtain ⟨t117, A40, H⟩ := H
  (try dsimp only at H)
  have A4 := Aside0.mk A40
  clear A40
  by_cases c5 : (cat a0 (⟨#[35]⟩ : ByteArray)).size + t117.size ≤ 9223372036854775807
  rotate_left
  · rw [if_neg c5] at H
    exact absurd H (by simp)
  rw [if_pos c5] at H
  have c5b0 := eq_true c5
  have c5b1 := decide_eq_true c5
  try have c5b2 := eq_false (Nat.not_lt.2 c5)
  clear c5
  obtain rfl := Option.some.inj H
  go_enter Tryd.func63, Tryd.ntmps63
  go_wp2_with (first | ((with_reducible refine gate_callee (f := 75) rfl ?_); refine qcall 6 Tryd.func75 rfl #[.string a0] ?_; (with_reducible refine (spec_l1Sum.calls k a0 t116 _ A3.out).mono ?_); rintro e w' ⟨rfl, ⟨nd, rfl⟩⟩; refine ⟨_, rfl, ?_⟩) | ((with_reducible refine gate_callee (f := 64) rfl ?_); refine qcall 7 Tryd.func64 rfl #[.int .i64 t116] ?_; (with_reducible refine (spec_l1Num.calls t116 t117 _ A4.out).mono ?_); rintro e w6 ⟨rfl, hb⟩; refine ⟨_, rfl, ?_⟩; refine qs1 (below_step zz20 hb) ?_; clear HB; intro HB; (try clear hb); (try clear hb2); (try clear hk); (try clear hi)))
  go_ret
  exact ⟨zz7, zz20⟩

end

end Go.Proofs.YtokmidpeeejahaaDoor.G

-- Written by a program of this session (wip/pd.py), which calls the kit's print; externals' contracts by hand.
namespace Go.Proofs.YtokmidpeeejahaaDoor.G
open Go.Proofs.YtokmidpeeejahaaDoorQ
open Go.RowKit Go.Proofs.YtokmidpeeejahaaDoorW.PrintWords Go.Proofs.YtokmidpeeejahaaDoorW.PrintLast Go.Proofs.YtokmidpeeejahaaDoorW.PrintMore
attribute [local go_sem] max2_int min2_int max_two min_two max_three min_three max_four min_four   -- for this text's walks alone
set_option linter.unusedVariables false
set_option linter.unusedSimpArgs false

section
attribute [local go_sem high] run_add_cat run_slice_cat run_slice_cat_h run_slice_cat_l run_slice_cat_all
/-! ### spec_l27Line: function 45 -/
def spec_l27Line.f (k : Nat) (a0 : Int) (a1_0 : ByteArray) (a1_1 : ByteArray) : Option (ByteArray) := (spec_l1Num.f a0).bind fun t119 => (if t119.size + 1 ≤ 9223372036854775807 then (if (cat t119 (⟨#[32]⟩ : ByteArray)).size + a1_0.size ≤ 9223372036854775807 then (if (cat (cat t119 (⟨#[32]⟩ : ByteArray)) a1_0).size + 1 ≤ 9223372036854775807 then (if (cat (cat (cat t119 (⟨#[32]⟩ : ByteArray)) a1_0) (⟨#[64]⟩ : ByteArray)).size + a1_1.size ≤ 9223372036854775807 then ((spec_l1Seal.f k (cat (cat (cat (cat t119 (⟨#[32]⟩ : ByteArray)) a1_0) (⟨#[64]⟩ : ByteArray)) a1_1)).bind fun t120 => (if t120.size + 1 ≤ 9223372036854775807 then (some (cat t120 (⟨#[10]⟩ : ByteArray))) else (none))) else (none)) else (none)) else (none)) else (none))
def spec_l27Line.T1 : Bool × List (List Nat × List Nat) := (true, [([], []), ([0], [0]), ([1], [1]), ([], []), ([3], [3]), ([2, 4], [2, 4]), ([5], [5]), ([], []), ([7], [7]), ([6, 8], [6, 8]), ([9, 1], [9]), ([10], [10]), ([11, 10, 0, 1, 2, 3, 4, 5, 6, 7, 8, 9, 10, 11], [11])])
def spec_l27Line.B1 : List Nat := [0, 1, 3, 0, 8, 31, 63, 0, 128, 511, 1023, 2047, 4095]
theorem spec_l27Line.tab1 : rtab .any (opsOf Tryd.f45 1) = spec_l27Line.T1 := by kernel_rfl
theorem spec_l27Line.bits1 : waitsOk spec_l27Line.T1.2 spec_l27Line.B1 = true := by kernel_rfl
set_option maxHeartbeats 8000000 in
set_option maxRecDepth 100000 in
theorem spec_l27Line.calls (k : Nat) (a0 : Int) (a1_0 : ByteArray) (a1_1 : ByteArray) (r : ByteArray) (w : World) (h : spec_l27Line.f k a0 a1_0 a1_1 = some r) :
    Calls Tryd.prog 45 #[.int .i64 a0, .agg #[.string a1_0, .string a1_1]] w fun e w' => e = .returned (.string r) ∧ Below w.heap.size w w' := by
  have hu40 := Tryd.underlying40
  have HB := Aside0.mk (Below.refl w.heap.size w)
  unfold spec_l27Line.f at h
  have H := h
  clear h
  replace H := Option.bind_eq_some_iff.mp H
  obtain ⟨t119, A30, H⟩ := H
  (try dsimp only at H)
  have A3 := Aside0.mk A30
  clear A30
  by_cases c4 : t119.size + 1 ≤ 9223372036854775807
  rotate_left
  · rw [if_neg c4] at H
    exact absurd H (by simp)
  rw [if_pos c4] at H
  have c4b0 := eq_true c4
  have c4b1 := decide_eq_true c4
  try have c4b2 := eq_false (Nat.not_lt.2 c4)
  clear c4
  by_cases c5 : (cat t119 (⟨#[32]⟩ : ByteArray)).size + a1_0.size ≤ 9223372036854775807
  rotate_left
  · rw [if_neg c5] at H
    exact absurd H (by simp)
  rw [if_pos c5] at H
  have c5b0 := eq_true c5
  have c5b1 := decide_eq_true c5
  try have c5b2 := eq_false (Nat.not_lt.2 c5)
  clear c5
  by_cases c6 : (cat (cat t119 (⟨#[32]⟩ : ByteArray)) a1_0).size + 1 ≤ 9223372036854775807
  rotate_left
  · rw [if_neg c6] at H
    exact absurd H (by simp)
  rw [if_pos c6] at H
  have c6b0 := eq_true c6
  have c6b1 := decide_eq_true c6
  try have c6b2 := eq_false (Nat.not_lt.2 c6)
  clear c6
  by_cases c7 : (cat (cat (cat t119 (⟨#[32]⟩ : ByteArray)) a1_0) (⟨#[64]⟩ : ByteArray)).size + a1_1.size ≤ 9223372036854775807
  rotate_left
  · rw [if_neg c7] at H
    exact absurd H (by simp)
  rw [if_pos c7] at H
  have c7b0 := eq_true c7
  have c7b1 := decide_eq_true c7
  try have c7b2 := eq_false (Nat.not_lt.2 c7)
  clear c7
  replace H := Option.bind_eq_some_iff.mp H
  obtain ⟨t120, A80, H⟩ := H
  (try dsimp only at H)
  have A8 := Aside0.mk A80
  clear A80
  by_cases c9 : t120.size + 1 ≤ 9223372036854775807
  rotate_left
  · rw [if_neg c9] at H
    exact absurd H (by simp)
  rw [if_pos c9] at H
  have c9b0 := eq_true c9
  have c9b1 := decide_eq_true c9
  try have c9b2 := eq_false (Nat.not_lt.2 c9)
  clear c9
  obtain rfl := Option.some.inj H
  go_enter Tryd.func45, Tryd.ntmps45
  try go_wp2_with (first | ((with_reducible refine gate_dst (N := 3) rfl ?_); refine qbox (N := 3) (cs := #[.string a1_0, .string a1_1]) (t := 40) ?_; intro gb118 hg w10 hbox hb; refine qs4 (below_step zz20 hb) (hbox) ((zz119 : w.heap.size ≤ gb118)) ((zz119 : w.heap.size ≤ gb118)) ?_; clear HB; intro HB BK118 GW118 GE118; clear hb hbox hg))
  refine qs2 (blk_drew BK118.out) (below_drew1 HB.out) ?_; clear BK118 HB; intro BK118 HB
  refine start_ (n := 13) (S := fun w' => w'.cell? ⟨gb118, 0, none⟩ = some (.string a1_0) ∧ w'.cell? ⟨gb118, 1, none⟩ = some (.string a1_1)) (ds := []) #[false, false, false, false, false, false, false, false, false, false, false, false, false] (by kernel_rfl) rfl rfl ⟨(blk_cell BK118.out 0).trans rfl, (blk_cell BK118.out 1).trans rfl⟩ (fun hHeld => ?_); refine with_tabW spec_l27Line.tab1 spec_l27Line.bits1 (fun HT_ HW_ => ?_)
  generalize w10.drew = w11 at BK118 HB hHeld ⊢
  refine qp 0 5 ?_; refine qp 3 8 ?_; refine qp 7 12 ?_; refine qt2 4 9 ?_; refine qt2 8 13 ?_
  refine one_ (i := 1) (N := some 6) #[true, true, false, true, true, false, false, true, true, false, false, false, false] rfl rfl (one_of HT_.out (by kernel_rfl)) (by decide) (fun K hK => ?_)
  refine goes_ Tryd.func64 (by kernel_rfl) rfl #[.int .i64 a0] (by rfl) rfl rfl zz21 ?_
  with_reducible refine (spec_l1Num.calls a0 t119 _ A3.out).mono ?_
  rintro e w12 ⟨rfl, hb⟩
  refine ⟨_, rfl, ?_⟩
  refine qs2 (blk_below (qb BK118.out) hb) (below_step zz39 hb) ?_; clear BK118 HB; intro BK118 HB
  (try clear hb)
  (try clear hb2)
  (try clear hk)
  (try clear hi)
  refine hK.out _ _ ⟨(blk_cell BK118.out 0).trans rfl, (blk_cell BK118.out 1).trans rfl⟩ (fun hHeld => ?_)
  clear hK K
  refine norm_ (a' := ?_) ?_ ?_
  rotate_left
  · show Act.put _ (some 6) _ = _
    simp only [Act.put, List.setIfInBounds_toArray, List.set_cons_zero, List.set_cons_succ, i64_w, i32_w]
    rfl
  refine qp 2 7 ?_; refine qp 5 10 ?_; refine qp 6 11 ?_; refine qp 9 14 ?_
  refine one_ (i := 10) (N := some 15) #[true, true, true, true, true, true, true, true, true, true, true, false, false] rfl rfl (one_of HT_.out (by kernel_rfl)) (by decide) (fun K hK => ?_)
  refine goes_ Tryd.func63 (by kernel_rfl) rfl #[.string (cat (cat (cat (cat t119 (⟨#[32]⟩ : ByteArray)) a1_0) (⟨#[64]⟩ : ByteArray)) a1_1)] (by rfl) rfl rfl zz21 ?_
  with_reducible refine (spec_l1Seal.calls k (cat (cat (cat (cat t119 (⟨#[32]⟩ : ByteArray)) a1_0) (⟨#[64]⟩ : ByteArray)) a1_1) t120 _ A8.out).mono ?_
  rintro e w13 ⟨rfl, hb⟩
  refine ⟨_, rfl, ?_⟩
  refine qs2 (blk_below (qb BK118.out) hb) (below_step zz39 hb) ?_; clear BK118 HB; intro BK118 HB
  (try clear hb)
  (try clear hb2)
  (try clear hk)
  (try clear hi)
  refine hK.out _ _ ⟨(blk_cell BK118.out 0).trans rfl, (blk_cell BK118.out 1).trans rfl⟩ (fun hHeld => ?_)
  clear hK K
  refine norm_ (a' := ?_) ?_ ?_
  rotate_left
  · show Act.put _ (some 15) _ = _
    simp only [Act.put, List.setIfInBounds_toArray, List.set_cons_zero, List.set_cons_succ, i64_w, i32_w]
    rfl
  refine qp 11 16 ?_; refine qp 12 4 ?_
  refine done_ (done_of HT_.out (by kernel_rfl)) ?_
  try go_wp2
  go_ret
  exact ⟨zz7, zz39⟩

end

section
attribute [local go_sem high] run_add_cat run_slice_cat run_slice_cat_h run_slice_cat_l run_slice_cat_all
/-! ### spec_l27Read: function 66 -/
def spec_l27Read.j0 : Nat → ByteArray → Int → ByteArray → ByteArray → Bool → Option (ByteArray × ByteArray × Bool)
  | 0, _, _, _, _, _ => none
  | k + 1, x0, x1, x6, x7, x30 => if x30 = true then (some ((⟨#[]⟩ : ByteArray), (⟨#[]⟩ : ByteArray), false)) else (if 0 ≤ (x6.size : Int) then (if (x6.size : Int) ≤ (x7.size : Int) then ((spec_l1Split.f k (subs x7 x6.size x7.size) 64).bind fun t127 => (if 0 < (t127.length : Int) then (if ((rdOf ByteArray.empty t127 0).size : Int) = ((subs x7 x6.size x7.size).size : Int) then (some ((⟨#[]⟩ : ByteArray), (⟨#[]⟩ : ByteArray), false)) else (if 0 ≤ (wrap64 (((rdOf ByteArray.empty t127 0).size : Int) + 1)) then (if (wrap64 (((rdOf ByteArray.empty t127 0).size : Int) + 1)) ≤ ((subs x7 x6.size x7.size).size : Int) then ((spec_l27Good.f k (rdOf ByteArray.empty t127 0) (subs (subs x7 x6.size x7.size) ((wrap64 (((rdOf ByteArray.empty t127 0).size : Int) + 1)) : Int).toNat (subs x7 x6.size x7.size).size)).bind fun t132 => (if t132 = true then ((spec_l27Line.f k x1 (rdOf ByteArray.empty t127 0) (subs (subs x7 x6.size x7.size) ((wrap64 (((rdOf ByteArray.empty t127 0).size : Int) + 1)) : Int).toNat (subs x7 x6.size x7.size).size)).bind fun t133 => (if x0.size + 1 ≤ 9223372036854775807 then (some (rdOf ByteArray.empty t127 0, subs (subs x7 x6.size x7.size) ((wrap64 (((rdOf ByteArray.empty t127 0).size : Int) + 1)) : Int).toNat (subs x7 x6.size x7.size).size, (t133.toList == (cat x0 (⟨#[10]⟩ : ByteArray)).toList))) else (none))) else (some (rdOf ByteArray.empty t127 0, subs (subs x7 x6.size x7.size) ((wrap64 (((rdOf ByteArray.empty t127 0).size : Int) + 1)) : Int).toNat (subs x7 x6.size x7.size).size, false)))) else (none)) else (none))) else (none))) else (none)) else (none))
def spec_l27Read.f (k : Nat) (a0 : ByteArray) (a1 : Int) : Option (ByteArray × ByteArray × Bool) := (spec_l1Num.f a1).bind fun t122 => (if t122.size + 1 ≤ 9223372036854775807 then ((spec_l1Split.f k a0 35).bind fun t123 => (if 0 < (t123.length : Int) then (if ((rdOf ByteArray.empty t123 0).size : Int) < ((cat t122 (⟨#[32]⟩ : ByteArray)).size : Int) then (spec_l27Read.j0 k a0 a1 (cat t122 (⟨#[32]⟩ : ByteArray)) (rdOf ByteArray.empty t123 0) true) else (if 0 ≤ ((cat t122 (⟨#[32]⟩ : ByteArray)).size : Int) then (if ((cat t122 (⟨#[32]⟩ : ByteArray)).size : Int) ≤ ((rdOf ByteArray.empty t123 0).size : Int) then (spec_l27Read.j0 k a0 a1 (cat t122 (⟨#[32]⟩ : ByteArray)) (rdOf ByteArray.empty t123 0) ((subs (rdOf ByteArray.empty t123 0) 0 (cat t122 (⟨#[32]⟩ : ByteArray)).size).toList != (cat t122 (⟨#[32]⟩ : ByteArray)).toList)) else (none)) else (none))) else (none))) else (none))
def spec_l27Read.T10 : Bool × List (List Nat × List Nat) := (true, [([], []), ([], []), ([1], [1]), ([2, 2], [2]), ([3], [3]), ([3], [3]), ([4, 5, 3, 3], [3, 4, 5]), ([3], [3]), ([7, 3], [3, 7]), ([6, 8, 3], [3, 6, 8]), ([3, 9], [3, 9]), ([0, 6, 0], [0]), ([10, 11, 0, 1, 2, 3, 4, 5, 6, 7, 8, 9, 10, 11], [10])])
def spec_l27Read.B10 : List Nat := [0, 0, 2, 6, 14, 14, 62, 14, 142, 510, 1022, 127, 4095]
theorem spec_l27Read.tab10 : rtab .any (opsOf Tryd.f66 10) = spec_l27Read.T10 := by kernel_rfl
theorem spec_l27Read.bits10 : waitsOk spec_l27Read.T10.2 spec_l27Read.B10 = true := by kernel_rfl
set_option maxHeartbeats 8000000 in
set_option maxRecDepth 100000 in
theorem spec_l27Read.calls (k : Nat) (a0 : ByteArray) (a1 : Int) (r1 : ByteArray) (r2 : ByteArray) (r3 : Bool) (w : World) (h : spec_l27Read.f k a0 a1 = some (r1, r2, r3)) :
    Calls Tryd.prog 66 #[.string a0, .int .i64 a1] w fun e w' => e = .returned (.tuple #[.agg #[.string r1, .string r2], .bool r3]) ∧ Below w.heap.size w w' := by
  have hu40 := Tryd.underlying40
  have HB := Aside0.mk (Below.refl w.heap.size w)
  unfold spec_l27Read.f at h
  have H := h
  clear h
  replace H := Option.bind_eq_some_iff.mp H
  obtain ⟨t122, A30, H⟩ := H
  (try dsimp only at H)
  have A3 := Aside0.mk A30
  clear A30
  by_cases c4 : t122.size + 1 ≤ 9223372036854775807
  rotate_left
  · rw [if_neg c4] at H
    exact absurd H (by simp)
  rw [if_pos c4] at H
  have c4b0 := eq_true c4
  have c4b1 := decide_eq_true c4
  try have c4b2 := eq_false (Nat.not_lt.2 c4)
  clear c4
  replace H := Option.bind_eq_some_iff.mp H
  obtain ⟨t123, A50, H⟩ := H
  (try dsimp only at H)
  have A5 := Aside0.mk A50
  clear A50
  by_cases c6 : 0 < (t123.length : Int)
  rotate_left
  · rw [if_neg c6] at H
    exact absurd H (by simp)
  rw [if_pos c6] at H
  have c6b0 := decide_eq_true c6
  have c6b1 : decide (0 < t123.length) = true := decide_eq_true (by omega)
  clear c6
  have HC7 := Aside0.mk H
  clear H
  go_enter Tryd.func66, Tryd.ntmps66
  go_upto_region 3 with (first | ((with_reducible refine gate_dst (N := 4) rfl ?_); (try (refine gate_guard (by rfl) ?_; dsimp only)); refine qbox (N := 4) (cs := #[.string (⟨#[]⟩ : ByteArray), .string (⟨#[]⟩ : ByteArray)]) (t := 40) ?_; intro gb121 hg w8 hbox hb; refine qs4 (below_step zz20 hb) (hbox) ((zz119 : w.heap.size ≤ gb121)) ((zz119 : w.heap.size ≤ gb121)) ?_; clear HB; intro HB BK121 GW121 GE121; clear hb hbox hg) | ((with_reducible refine gate_callee (f := 64) rfl ?_); refine qcall 12 Tryd.func64 rfl #[.int .i64 a1] ?_; (with_reducible refine (spec_l1Num.calls a1 t122 _ A3.out).mono ?_); rintro e w9 ⟨rfl, hb⟩; refine ⟨_, rfl, ?_⟩; refine qs2 (blk_below (qb BK121.out) hb) (below_step zz25 hb) ?_; clear BK121 HB; intro BK121 HB; (try clear hb); (try clear hb2); (try clear hk); (try clear hi)) | ((with_reducible refine gate_callee (f := 65) rfl ?_); refine qcall 15 Tryd.func65 rfl #[.string a0, .int .u8 35] ?_; (with_reducible refine (spec_l1Split.calls k a0 35 t123 _ A5.out).mono ?_); rintro e w10 ⟨v124, rfl, ho0, hb⟩; refine ⟨_, rfl, ?_⟩; refine qs3 (Kd.R_lower ho0 (below_size zz25)) (blk_below (qb BK121.out) hb) (below_step zz25 hb) ?_; clear BK121 HB; intro HO125 BK121 HB; (try clear hb); (try clear hb2); (try clear hk); (try clear hi); (try clear ho0); obtain ⟨Ao11, co11, eo11⟩ := Kd.R_slice HO125.out; subst eo11; have p126 : 0 ≤ (0 : Int) := (by omega); have q126 : 0 < (t123.length : Int) := of_decide_eq_true zz4; obtain ⟨ad126, e126, hx126_0⟩ := Kd.at_string (Kd.R_reads' HO125.out).2.2 0 p126 q126; cases e126; have qi126 : (0 < t123.length) = True := eq_true (by omega); (try rw [show ((0 : Int)).toNat = 0 from rfl] at hx126_0); (try rw [Addr.add_zero'] at hx126_0); replace p126 := eq_true p126; replace q126 := eq_true q126))
  (try simp only [Act.put, List.setIfInBounds_toArray, List.set_cons_zero, List.set_cons_succ])
  go_cut [30] (fun v30 wc => ∃ (kq : Nat) (x30_6 : Bool), v30 = .bool x30_6 ∧ Aside0 (spec_l27Read.j0 kq a0 a1 (cat t122 (⟨#[32]⟩ : ByteArray)) (rdOf ByteArray.empty t123 0) x30_6 = some (r1, r2, r3)) ∧ Aside0 (kq ≤ k) ∧ Aside0 (wc.heap[gb121]? = some (.cells #[.string (⟨#[]⟩ : ByteArray), .string (⟨#[]⟩ : ByteArray)] 40 (0, 0))) ∧ Aside0 (Below w.heap.size w wc))
  case first =>
    have H := HC7.out
    clear HC7
    by_cases c12 : ((rdOf ByteArray.empty t123 0).size : Int) < ((cat t122 (⟨#[32]⟩ : ByteArray)).size : Int)
    · rw [if_pos c12] at H
      have c12b0 := decide_eq_true c12
      have c12b1 : decide ((rdOf ByteArray.empty t123 0).size < (cat t122 (⟨#[32]⟩ : ByteArray)).size) = true := decide_eq_true (Int.ofNat_lt.mp c12)
      clear c12
      (first | rw [c12b0] | (simp only [i64_w, i32_w]; rw [c12b0]) | skip)
      have H' := Aside0.mk H
      clear H
      go_wp2
      go_meet
      case rel => exact ⟨_, (true), zz3, H', ⟨zz1⟩, ⟨by (with_reducible repeat (first | refine blk_drewN ?_ _ | refine blk_drew ?_ | refine blk_alloc ?_ _)); exact BK121.out⟩, ⟨zz25⟩⟩
    rw [if_neg c12] at H
    have c12b0 := decide_eq_false c12
    have c12b1 : decide ((rdOf ByteArray.empty t123 0).size < (cat t122 (⟨#[32]⟩ : ByteArray)).size) = false := decide_eq_false (fun h => c12 (Int.ofNat_lt.mpr h))
    clear c12
    (first | rw [c12b0] | (simp only [i64_w, i32_w]; rw [c12b0]) | skip)
    by_cases c13 : 0 ≤ ((cat t122 (⟨#[32]⟩ : ByteArray)).size : Int)
    rotate_left
    · rw [if_neg c13] at H
      exact absurd H (by simp)
    rw [if_pos c13] at H
    have c13b0 := eq_true c13
    have c13b1 := decide_eq_true c13
    clear c13
    by_cases c14 : ((cat t122 (⟨#[32]⟩ : ByteArray)).size : Int) ≤ ((rdOf ByteArray.empty t123 0).size : Int)
    rotate_left
    · rw [if_neg c14] at H
      exact absurd H (by simp)
    rw [if_pos c14] at H
    have c14b0 := eq_true c14
    have c14b1 := decide_eq_true c14
    clear c14
    have H' := Aside0.mk H
    clear H
    go_wp2
    go_meet
    case rel => exact ⟨_, (((subs (rdOf ByteArray.empty t123 0) 0 (cat t122 (⟨#[32]⟩ : ByteArray)).size).toList != (cat t122 (⟨#[32]⟩ : ByteArray)).toList)), zz3, H', ⟨zz1⟩, ⟨by (with_reducible repeat (first | refine blk_drewN ?_ _ | refine blk_drew ?_ | refine blk_alloc ?_ _)); exact BK121.out⟩, ⟨zz25⟩⟩
  case rest =>
    clear HC7
    try clear c1
    try clear p1
    try clear q1
    try clear hx1
    try clear qi1
    try clear p2
    try clear c4
    try clear c4b0
    try clear c4b1
    try clear c4b2
    try clear c6
    try clear c6b0
    try clear c6b1
    try clear c12
    try clear c12b0
    try clear c12b1
    try clear p12
    try clear q12
    try clear hx12
    try clear qi12
    try clear c13
    try clear c13b0
    try clear c13b1
    try clear c14
    try clear c14b0
    try clear c14b1
    try clear hx126_0
    try clear p126
    try clear q126
    obtain ⟨kq, x30_6, rfl, HA, HJ6, BK121, HB⟩ := hcut
    cases kq with
    | zero => exact absurd HA.out (by simp [spec_l27Read.j0])
    | succ kj6 =>
      have H := HA.out
      clear HA
      simp only [spec_l27Read.j0] at H
      by_cases c15 : x30_6 = true
      · subst c15
        rw [if_pos rfl] at H
        simp only [Option.some.injEq, Prod.mk.injEq] at H
        obtain ⟨rfl, rfl, rfl⟩ := H
        obtain ⟨hcz16_0, hcz16_1, hfz16_0, hfz16_1⟩ := qc2 BK121.out
        go_wp2
        refine bodyPost_ret (results_ct rfl _ _ gb121 40 #[.string (⟨#[]⟩ : ByteArray), .string (⟨#[]⟩ : ByteArray)] (0, 0) _ rfl zz94 Tryd.underlying40 rfl (by kernel_rfl)) rfl ?_
        exact ⟨zz7, zz25⟩
      replace c15 := Bool.eq_false_iff.mpr c15
      subst c15
      rw [if_neg (show ¬ (false = true) by decide)] at H
      by_cases c17 : 0 ≤ ((cat t122 (⟨#[32]⟩ : ByteArray)).size : Int)
      rotate_left
      · rw [if_neg c17] at H
        exact absurd H (by simp)
      rw [if_pos c17] at H
      have c17b0 := eq_true c17
      have c17b1 := decide_eq_true c17
      clear c17
      by_cases c18 : ((cat t122 (⟨#[32]⟩ : ByteArray)).size : Int) ≤ ((rdOf ByteArray.empty t123 0).size : Int)
      rotate_left
      · rw [if_neg c18] at H
        exact absurd H (by simp)
      rw [if_pos c18] at H
      have c18b0 := eq_true c18
      have c18b1 := decide_eq_true c18
      clear c18
      replace H := Option.bind_eq_some_iff.mp H
      obtain ⟨t127, A190, H⟩ := H
      (try dsimp only at H)
      have A19 := Aside0.mk A190
      clear A190
      by_cases c20 : 0 < (t127.length : Int)
      rotate_left
      · rw [if_neg c20] at H
        exact absurd H (by simp)
      rw [if_pos c20] at H
      have c20b0 := decide_eq_true c20
      have c20b1 : decide (0 < t127.length) = true := decide_eq_true (by omega)
      clear c20
      by_cases c21 : ((rdOf ByteArray.empty t127 0).size : Int) = ((subs (rdOf ByteArray.empty t123 0) (cat t122 (⟨#[32]⟩ : ByteArray)).size (rdOf ByteArray.empty t123 0).size).size : Int)
      · rw [if_pos c21] at H
        have c21b0 := beq_iff_eq.mpr c21
        have c21b1 := bne_eq_false_iff_eq.mpr c21
        have c21b2 : ((rdOf ByteArray.empty t127 0).size == (subs (rdOf ByteArray.empty t123 0) (cat t122 (⟨#[32]⟩ : ByteArray)).size (rdOf ByteArray.empty t123 0).size).size) = true := by first | simpa using c21 | (simp at c21 ⊢; omega)
        clear c21
        simp only [Option.some.injEq, Prod.mk.injEq] at H
        obtain ⟨rfl, rfl, rfl⟩ := H
        go_wp2_with (first | ((with_reducible refine gate_callee (f := 65) rfl ?_); refine qcall 37 Tryd.func65 rfl #[.string (subs (rdOf ByteArray.empty t123 0) (cat t122 (⟨#[32]⟩ : ByteArray)).size (rdOf ByteArray.empty t123 0).size), .int .u8 64] ?_; (with_reducible refine (spec_l1Split.calls kj6 (subs (rdOf ByteArray.empty t123 0) (cat t122 (⟨#[32]⟩ : ByteArray)).size (rdOf ByteArray.empty t123 0).size) 64 t127 _ A19.out).mono ?_); rintro e w22 ⟨v128, rfl, ho0, hb⟩; refine ⟨_, rfl, ?_⟩; refine qs3 (Kd.R_lower ho0 (below_size zz25)) (blk_below (qb BK121.out) hb) (below_step zz25 hb) ?_; clear BK121 HB; intro HO129 BK121 HB; (try clear hb); (try clear hb2); (try clear hk); (try clear hi); (try clear ho0); obtain ⟨Ao23, co23, eo23⟩ := Kd.R_slice HO129.out; subst eo23; have p130 : 0 ≤ (0 : Int) := (by omega); have q130 : 0 < (t127.length : Int) := of_decide_eq_true zz4; obtain ⟨ad130, e130, hx130_0⟩ := Kd.at_string (Kd.R_reads' HO129.out).2.2 0 p130 q130; cases e130; have qi130 : (0 < t127.length) = True := eq_true (by omega); (try rw [show ((0 : Int)).toNat = 0 from rfl] at hx130_0); (try rw [Addr.add_zero'] at hx130_0); replace p130 := eq_true p130; replace q130 := eq_true q130; obtain ⟨hcz24_0, hcz24_1, hfz24_0, hfz24_1⟩ := qc2 BK121.out))
        refine bodyPost_ret (results_ct rfl _ _ gb121 40 #[.string (⟨#[]⟩ : ByteArray), .string (⟨#[]⟩ : ByteArray)] (0, 0) _ rfl zz94 Tryd.underlying40 rfl (by kernel_rfl)) rfl ?_
        exact ⟨zz7, zz25⟩
      rw [if_neg c21] at H
      have c21b0 := beq_eq_false_iff_ne.mpr c21
      have c21b1 := bne_iff_ne.mpr c21
      have c21b2 : ((rdOf ByteArray.empty t127 0).size == (subs (rdOf ByteArray.empty t123 0) (cat t122 (⟨#[32]⟩ : ByteArray)).size (rdOf ByteArray.empty t123 0).size).size) = false := by first | simpa using c21 | (simp at c21 ⊢; omega)
      obtain ⟨ji25, hji25⟩ : ∃ j_ : Int, (wrap64 (((rdOf ByteArray.empty t127 0).size : Int) + 1)) = j_ := ⟨_, rfl⟩
      replace H : (if 0 ≤ (ji25) then (if (ji25) ≤ ((subs (rdOf ByteArray.empty t123 0) (cat t122 (⟨#[32]⟩ : ByteArray)).size (rdOf ByteArray.empty t123 0).size).size : Int) then ((spec_l27Good.f kj6 (rdOf ByteArray.empty t127 0) (subs (subs (rdOf ByteArray.empty t123 0) (cat t122 (⟨#[32]⟩ : ByteArray)).size (rdOf ByteArray.empty t123 0).size) ((ji25) : Int).toNat (subs (rdOf ByteArray.empty t123 0) (cat t122 (⟨#[32]⟩ : ByteArray)).size (rdOf ByteArray.empty t123 0).size).size)).bind fun t132 => (if t132 = true then ((spec_l27Line.f kj6 a1 (rdOf ByteArray.empty t127 0) (subs (subs (rdOf ByteArray.empty t123 0) (cat t122 (⟨#[32]⟩ : ByteArray)).size (rdOf ByteArray.empty t123 0).size) ((ji25) : Int).toNat (subs (rdOf ByteArray.empty t123 0) (cat t122 (⟨#[32]⟩ : ByteArray)).size (rdOf ByteArray.empty t123 0).size).size)).bind fun t133 => (if a0.size + 1 ≤ 9223372036854775807 then (some (rdOf ByteArray.empty t127 0, subs (subs (rdOf ByteArray.empty t123 0) (cat t122 (⟨#[32]⟩ : ByteArray)).size (rdOf ByteArray.empty t123 0).size) ((ji25) : Int).toNat (subs (rdOf ByteArray.empty t123 0) (cat t122 (⟨#[32]⟩ : ByteArray)).size (rdOf ByteArray.empty t123 0).size).size, (t133.toList == (cat a0 (⟨#[10]⟩ : ByteArray)).toList))) else (none))) else (some (rdOf ByteArray.empty t127 0, subs (subs (rdOf ByteArray.empty t123 0) (cat t122 (⟨#[32]⟩ : ByteArray)).size (rdOf ByteArray.empty t123 0).size) ((ji25) : Int).toNat (subs (rdOf ByteArray.empty t123 0) (cat t122 (⟨#[32]⟩ : ByteArray)).size (rdOf ByteArray.empty t123 0).size).size, false)))) else (none)) else (none)) = some (r1, r2, r3) := by first | (rw [hji25] at H; exact H) | (simp only [hji25] at H ⊢; exact H)
      (try rw [hji25] at A19)
      have hji25w : (IntKind.i64.wrap (((rdOf ByteArray.empty t127 0).size : Int) + 1)) = ji25 := (i64_w _).trans hji25
      by_cases c26 : 0 ≤ (ji25)
      rotate_left
      · rw [if_neg c26] at H
        exact absurd H (by simp)
      rw [if_pos c26] at H
      have c26b0 := eq_true c26
      have c26b1 := decide_eq_true c26
      clear c26
      by_cases c27 : (ji25) ≤ ((subs (rdOf ByteArray.empty t123 0) (cat t122 (⟨#[32]⟩ : ByteArray)).size (rdOf ByteArray.empty t123 0).size).size : Int)
      rotate_left
      · rw [if_neg c27] at H
        exact absurd H (by simp)
      rw [if_pos c27] at H
      have c27b0 := eq_true c27
      have c27b1 := decide_eq_true c27
      clear c27
      replace H := Option.bind_eq_some_iff.mp H
      obtain ⟨t132, A280, H⟩ := H
      (try dsimp only at H)
      have A28 := Aside0.mk A280
      clear A280
      by_cases c29 : t132 = true
      rotate_left
      · replace c29 := Bool.eq_false_iff.mpr c29
        subst c29
        rw [if_neg (show ¬ (false = true) by decide)] at H
        simp only [Option.some.injEq, Prod.mk.injEq] at H
        obtain ⟨rfl, rfl, rfl⟩ := H
        try go_wp2_with (first | ((with_reducible refine gate_callee (f := 65) rfl ?_); refine qcall 37 Tryd.func65 rfl #[.string (subs (rdOf ByteArray.empty t123 0) (cat t122 (⟨#[32]⟩ : ByteArray)).size (rdOf ByteArray.empty t123 0).size), .int .u8 64] ?_; (with_reducible refine (spec_l1Split.calls kj6 (subs (rdOf ByteArray.empty t123 0) (cat t122 (⟨#[32]⟩ : ByteArray)).size (rdOf ByteArray.empty t123 0).size) 64 t127 _ A19.out).mono ?_); rintro e w43 ⟨v128, rfl, ho0, hb⟩; refine ⟨_, rfl, ?_⟩; refine qs3 (Kd.R_lower ho0 (below_size zz25)) (blk_below (qb BK121.out) hb) (below_step zz25 hb) ?_; clear BK121 HB; intro HO129 BK121 HB; (try clear hb); (try clear hb2); (try clear hk); (try clear hi); (try clear ho0); obtain ⟨Ao44, co44, eo44⟩ := Kd.R_slice HO129.out; subst eo44; have p130 : 0 ≤ (0 : Int) := (by omega); have q130 : 0 < (t127.length : Int) := of_decide_eq_true zz4; obtain ⟨ad130, e130, hx130_0⟩ := Kd.at_string (Kd.R_reads' HO129.out).2.2 0 p130 q130; cases e130; have qi130 : (0 < t127.length) = True := eq_true (by omega); (try rw [show ((0 : Int)).toNat = 0 from rfl] at hx130_0); (try rw [Addr.add_zero'] at hx130_0); replace p130 := eq_true p130; replace q130 := eq_true q130) | ((with_reducible refine gate_dst (N := 10) rfl ?_); (try (refine gate_guard (by rfl) ?_; dsimp only)); refine qbox (N := 10) (cs := #[.string (⟨#[]⟩ : ByteArray), .string (⟨#[]⟩ : ByteArray)]) (t := 40) ?_; intro gb131 hg w45 hbox hb; refine qs8 (Kd.R_below (qr HO129.out) hb) (blk_below (qb BK121.out) hb) (below_step zz25 hb) (hbox) ((by rw [hg]; exact (below_size zz25) : w.heap.size ≤ gb131)) ((by rw [hg]; exact (below_size zz25) : w.heap.size ≤ gb131)) ((by rw [hg]; exact Nat.ne_of_lt (blk_lt (qb BK121.out)) : gb121 ≠ gb131)) ((by rw [hg]; exact Nat.ne_of_gt (blk_lt (qb BK121.out)) : gb131 ≠ gb121)) ?_; clear HO129 BK121 HB; intro HO129 BK121 HB BK131 GW131 GE131 NB121_131 NB131_121; clear hb hbox hg; have hnb46 := NB131_121.out; have hnc46 := NB121_131.out; obtain ⟨hcz47_0, hcz47_1, hfz47_0, hfz47_1⟩ := qc2 BK131.out))
        have n0_ : Aside0 (Kd.R Kd.string 9 ((w45.setCell ⟨gb131, 0, none⟩ (.string (rdOf ByteArray.empty t127 0))).setCell ⟨gb131, 1, none⟩ (.string (subs (subs (rdOf ByteArray.empty t123 0) (cat t122 (⟨#[32]⟩ : ByteArray)).size (rdOf ByteArray.empty t123 0).size) ((ji25) : Int).toNat (subs (rdOf ByteArray.empty t123 0) (cat t122 (⟨#[32]⟩ : ByteArray)).size (rdOf ByteArray.empty t123 0).size).size))) w.heap.size (fun _ => True) (.slice (some ad130) t127.length co44) t127) := ⟨zz110⟩
        have n1_ : Aside0 (((w45.setCell ⟨gb131, 0, none⟩ (.string (rdOf ByteArray.empty t127 0))).setCell ⟨gb131, 1, none⟩ (.string (subs (subs (rdOf ByteArray.empty t123 0) (cat t122 (⟨#[32]⟩ : ByteArray)).size (rdOf ByteArray.empty t123 0).size) ((ji25) : Int).toNat (subs (rdOf ByteArray.empty t123 0) (cat t122 (⟨#[32]⟩ : ByteArray)).size (rdOf ByteArray.empty t123 0).size).size))).heap[gb121]? = some (.cells #[.string (⟨#[]⟩ : ByteArray), .string (⟨#[]⟩ : ByteArray)] 40 (0, 0))) := ⟨zz90⟩
        have n2_ : Aside0 (((w45.setCell ⟨gb131, 0, none⟩ (.string (rdOf ByteArray.empty t127 0))).setCell ⟨gb131, 1, none⟩ (.string (subs (subs (rdOf ByteArray.empty t123 0) (cat t122 (⟨#[32]⟩ : ByteArray)).size (rdOf ByteArray.empty t123 0).size) ((ji25) : Int).toNat (subs (rdOf ByteArray.empty t123 0) (cat t122 (⟨#[32]⟩ : ByteArray)).size (rdOf ByteArray.empty t123 0).size).size))).heap[gb131]? = some (.cells #[.string (rdOf ByteArray.empty t127 0), .string (subs (subs (rdOf ByteArray.empty t123 0) (cat t122 (⟨#[32]⟩ : ByteArray)).size (rdOf ByteArray.empty t123 0).size) ((ji25) : Int).toNat (subs (rdOf ByteArray.empty t123 0) (cat t122 (⟨#[32]⟩ : ByteArray)).size (rdOf ByteArray.empty t123 0).size).size)] 40 (0, 0))) := ⟨zz95⟩
        have n3_ : Aside0 (Below w.heap.size w ((w45.setCell ⟨gb131, 0, none⟩ (.string (rdOf ByteArray.empty t127 0))).setCell ⟨gb131, 1, none⟩ (.string (subs (subs (rdOf ByteArray.empty t123 0) (cat t122 (⟨#[32]⟩ : ByteArray)).size (rdOf ByteArray.empty t123 0).size) ((ji25) : Int).toNat (subs (rdOf ByteArray.empty t123 0) (cat t122 (⟨#[32]⟩ : ByteArray)).size (rdOf ByteArray.empty t123 0).size).size)))) := ⟨zz52⟩
        (try clear HO129)
        (try clear BK121)
        (try clear BK131)
        (try clear HB)
        generalize ((w45.setCell ⟨gb131, 0, none⟩ (.string (rdOf ByteArray.empty t127 0))).setCell ⟨gb131, 1, none⟩ (.string (subs (subs (rdOf ByteArray.empty t123 0) (cat t122 (⟨#[32]⟩ : ByteArray)).size (rdOf ByteArray.empty t123 0).size) ((ji25) : Int).toNat (subs (rdOf ByteArray.empty t123 0) (cat t122 (⟨#[32]⟩ : ByteArray)).size (rdOf ByteArray.empty t123 0).size).size))) = w48 at n0_ n1_ n2_ n3_ ⊢
        have HO129 := n0_
        have BK121 := n1_
        have BK131 := n2_
        have HB := n3_
        clear n0_ n1_ n2_ n3_
        refine qs4 (Kd.R_drew HO129.out) (blk_drew BK121.out) (blk_drew BK131.out) (below_drew1 HB.out) ?_; clear HO129 BK121 BK131 HB; intro HO129 BK121 BK131 HB
        refine start_ (n := 13) (S := fun w' => w'.cell? ⟨gb131, 0, none⟩ = some (.string (rdOf ByteArray.empty t127 0)) ∧ w'.cell? ⟨gb131, 1, none⟩ = some (.string (subs (subs (rdOf ByteArray.empty t123 0) (cat t122 (⟨#[32]⟩ : ByteArray)).size (rdOf ByteArray.empty t123 0).size) ((ji25) : Int).toNat (subs (rdOf ByteArray.empty t123 0) (cat t122 (⟨#[32]⟩ : ByteArray)).size (rdOf ByteArray.empty t123 0).size).size))) (ds := []) #[false, false, false, false, false, false, false, false, false, false, false, false, false] (by kernel_rfl) rfl rfl ⟨(blk_cell BK131.out 0).trans rfl, (blk_cell BK131.out 1).trans rfl⟩ (fun hHeld => ?_); refine with_tabW spec_l27Read.tab10 spec_l27Read.bits10 (fun HT_ HW_ => ?_)
        generalize w48.drew = w49 at HO129 BK121 BK131 HB hHeld ⊢
        refine qt2 0 53 ?_; refine qt2 1 54 ?_
        refine one_ (i := 2) (N := some 55) #[true, true, true, false, false, false, false, false, false, false, false, false, false] rfl rfl (one_of HT_.out (by kernel_rfl)) (by decide) (fun K hK => ?_)
        refine goes_ Tryd.func44 (by kernel_rfl) rfl #[.agg #[.string (rdOf ByteArray.empty t127 0), .string (subs (subs (rdOf ByteArray.empty t123 0) (cat t122 (⟨#[32]⟩ : ByteArray)).size (rdOf ByteArray.empty t123 0).size) ((ji25) : Int).toNat (subs (rdOf ByteArray.empty t123 0) (cat t122 (⟨#[32]⟩ : ByteArray)).size (rdOf ByteArray.empty t123 0).size).size)]] (by rfl) rfl rfl zz44 ?_
        with_reducible refine (spec_l27Good.calls kj6 (rdOf ByteArray.empty t127 0) (subs (subs (rdOf ByteArray.empty t123 0) (cat t122 (⟨#[32]⟩ : ByteArray)).size (rdOf ByteArray.empty t123 0).size) ((ji25) : Int).toNat (subs (rdOf ByteArray.empty t123 0) (cat t122 (⟨#[32]⟩ : ByteArray)).size (rdOf ByteArray.empty t123 0).size).size) false _ A28.out).mono ?_
        rintro e w50 ⟨rfl, hb⟩
        refine ⟨_, rfl, ?_⟩
        refine qs4 (Kd.R_below (qr HO129.out) hb) (blk_below (qb BK121.out) hb) (blk_below (qb BK131.out) hb) (below_step zz52 hb) ?_; clear HO129 BK121 BK131 HB; intro HO129 BK121 BK131 HB
        (try clear hb)
        (try clear hb2)
        (try clear hk)
        (try clear hi)
        refine hK.out _ _ ⟨(blk_cell BK131.out 0).trans rfl, (blk_cell BK131.out 1).trans rfl⟩ (fun hHeld => ?_)
        clear hK K
        refine norm_ (a' := ?_) ?_ ?_
        rotate_left
        · show Act.put _ (some 55) _ = _
          simp only [Act.put, List.setIfInBounds_toArray, List.set_cons_zero, List.set_cons_succ, i64_w, i32_w]
          rfl
        refine qp 3 56 ?_; refine qu 4 57 ?_; refine qu 5 58 ?_; refine qu 6 59 ?_; refine qu 7 60 ?_; refine qu 8 61 ?_; refine qu 9 62 ?_; refine qp 10 63 ?_
        refine one_ (i := 11) (N := none) #[true, true, true, true, true, true, true, true, true, true, true, true, false] rfl rfl (one_of HT_.out (by kernel_rfl)) (by decide) (fun K hK => ?_)
        have hs51 : w50.cell? ⟨gb121, 0, none⟩ = some (.string (⟨#[]⟩ : ByteArray)) := (blk_cell BK121.out 0).trans rfl
        have hfs51 := blk_frozen BK121.out 0
        have hns51_1 := NB131_121.out
        have hms51_1 := NB121_131.out
        have hs52 : w50.cell? ⟨gb121, 1, none⟩ = some (.string (⟨#[]⟩ : ByteArray)) := (blk_cell BK121.out 1).trans rfl
        have hfs52 := blk_frozen BK121.out 1
        have hns52_1 := NB131_121.out
        have hms52_1 := NB121_131.out
        refine skip_ (w1 := ?_) (by rfl) rfl ?_ ?_
        rotate_left
        · go_simp
          rfl
        refine hK.out _ _ ⟨((cell_far (p := ⟨gb121, _, none⟩) NB131_121.out _).trans (((cell_far (p := ⟨gb121, _, none⟩) NB131_121.out _).trans (hHeld.1)))), ((cell_far (p := ⟨gb121, _, none⟩) NB131_121.out _).trans (((cell_far (p := ⟨gb121, _, none⟩) NB131_121.out _).trans (hHeld.2))))⟩ (fun hHeld => ?_)
        clear hK K
        refine qp 12 5 ?_
        refine done_ (done_of HT_.out (by kernel_rfl)) ?_
        try go_wp2
        refine bodyPost_ret (results_ct rfl _ _ gb121 40 #[.string (rdOf ByteArray.empty t127 0), .string (subs (subs (rdOf ByteArray.empty t123 0) (cat t122 (⟨#[32]⟩ : ByteArray)).size (rdOf ByteArray.empty t123 0).size) ((ji25) : Int).toNat (subs (rdOf ByteArray.empty t123 0) (cat t122 (⟨#[32]⟩ : ByteArray)).size (rdOf ByteArray.empty t123 0).size).size)] (0, 0) _ rfl zz96 Tryd.underlying40 rfl (by kernel_rfl)) rfl ?_
        exact ⟨by first | rfl | (simp [errW_none, errW_some] <;> rfl) | (simp only [← hji25]; first | rfl | (simp [errW_none, errW_some] <;> rfl)) | (simp [*, errW_none, errW_some] <;> rfl), zz52⟩
      subst c29
      rw [if_pos rfl] at H
      replace H := Option.bind_eq_some_iff.mp H
      obtain ⟨t133, A300, H⟩ := H
      (try dsimp only at H)
      have A30 := Aside0.mk A300
      clear A300
      by_cases c31 : a0.size + 1 ≤ 9223372036854775807
      rotate_left
      · rw [if_neg c31] at H
        exact absurd H (by simp)
      rw [if_pos c31] at H
      have c31b0 := eq_true c31
      have c31b1 := decide_eq_true c31
      try have c31b2 := eq_false (Nat.not_lt.2 c31)
      clear c31
      simp only [Option.some.injEq, Prod.mk.injEq] at H
      obtain ⟨rfl, rfl, rfl⟩ := H
      try go_wp2_with (first | ((with_reducible refine gate_callee (f := 65) rfl ?_); refine qcall 37 Tryd.func65 rfl #[.string (subs (rdOf ByteArray.empty t123 0) (cat t122 (⟨#[32]⟩ : ByteArray)).size (rdOf ByteArray.empty t123 0).size), .int .u8 64] ?_; (with_reducible refine (spec_l1Split.calls kj6 (subs (rdOf ByteArray.empty t123 0) (cat t122 (⟨#[32]⟩ : ByteArray)).size (rdOf ByteArray.empty t123 0).size) 64 t127 _ A19.out).mono ?_); rintro e w32 ⟨v128, rfl, ho0, hb⟩; refine ⟨_, rfl, ?_⟩; refine qs3 (Kd.R_lower ho0 (below_size zz25)) (blk_below (qb BK121.out) hb) (below_step zz25 hb) ?_; clear BK121 HB; intro HO129 BK121 HB; (try clear hb); (try clear hb2); (try clear hk); (try clear hi); (try clear ho0); obtain ⟨Ao33, co33, eo33⟩ := Kd.R_slice HO129.out; subst eo33; have p130 : 0 ≤ (0 : Int) := (by omega); have q130 : 0 < (t127.length : Int) := of_decide_eq_true zz4; obtain ⟨ad130, e130, hx130_0⟩ := Kd.at_string (Kd.R_reads' HO129.out).2.2 0 p130 q130; cases e130; have qi130 : (0 < t127.length) = True := eq_true (by omega); (try rw [show ((0 : Int)).toNat = 0 from rfl] at hx130_0); (try rw [Addr.add_zero'] at hx130_0); replace p130 := eq_true p130; replace q130 := eq_true q130) | ((with_reducible refine gate_dst (N := 10) rfl ?_); (try (refine gate_guard (by rfl) ?_; dsimp only)); refine qbox (N := 10) (cs := #[.string (⟨#[]⟩ : ByteArray), .string (⟨#[]⟩ : ByteArray)]) (t := 40) ?_; intro gb131 hg w34 hbox hb; refine qs8 (Kd.R_below (qr HO129.out) hb) (blk_below (qb BK121.out) hb) (below_step zz25 hb) (hbox) ((by rw [hg]; exact (below_size zz25) : w.heap.size ≤ gb131)) ((by rw [hg]; exact (below_size zz25) : w.heap.size ≤ gb131)) ((by rw [hg]; exact Nat.ne_of_lt (blk_lt (qb BK121.out)) : gb121 ≠ gb131)) ((by rw [hg]; exact Nat.ne_of_gt (blk_lt (qb BK121.out)) : gb131 ≠ gb121)) ?_; clear HO129 BK121 HB; intro HO129 BK121 HB BK131 GW131 GE131 NB121_131 NB131_121; clear hb hbox hg; have hnb35 := NB131_121.out; have hnc35 := NB121_131.out; obtain ⟨hcz36_0, hcz36_1, hfz36_0, hfz36_1⟩ := qc2 BK131.out))
      have n0_ : Aside0 (Kd.R Kd.string 9 ((w34.setCell ⟨gb131, 0, none⟩ (.string (rdOf ByteArray.empty t127 0))).setCell ⟨gb131, 1, none⟩ (.string (subs (subs (rdOf ByteArray.empty t123 0) (cat t122 (⟨#[32]⟩ : ByteArray)).size (rdOf ByteArray.empty t123 0).size) ((ji25) : Int).toNat (subs (rdOf ByteArray.empty t123 0) (cat t122 (⟨#[32]⟩ : ByteArray)).size (rdOf ByteArray.empty t123 0).size).size))) w.heap.size (fun _ => True) (.slice (some ad130) t127.length co33) t127) := ⟨zz110⟩
      have n1_ : Aside0 (((w34.setCell ⟨gb131, 0, none⟩ (.string (rdOf ByteArray.empty t127 0))).setCell ⟨gb131, 1, none⟩ (.string (subs (subs (rdOf ByteArray.empty t123 0) (cat t122 (⟨#[32]⟩ : ByteArray)).size (rdOf ByteArray.empty t123 0).size) ((ji25) : Int).toNat (subs (rdOf ByteArray.empty t123 0) (cat t122 (⟨#[32]⟩ : ByteArray)).size (rdOf ByteArray.empty t123 0).size).size))).heap[gb121]? = some (.cells #[.string (⟨#[]⟩ : ByteArray), .string (⟨#[]⟩ : ByteArray)] 40 (0, 0))) := ⟨zz90⟩
      have n2_ : Aside0 (((w34.setCell ⟨gb131, 0, none⟩ (.string (rdOf ByteArray.empty t127 0))).setCell ⟨gb131, 1, none⟩ (.string (subs (subs (rdOf ByteArray.empty t123 0) (cat t122 (⟨#[32]⟩ : ByteArray)).size (rdOf ByteArray.empty t123 0).size) ((ji25) : Int).toNat (subs (rdOf ByteArray.empty t123 0) (cat t122 (⟨#[32]⟩ : ByteArray)).size (rdOf ByteArray.empty t123 0).size).size))).heap[gb131]? = some (.cells #[.string (rdOf ByteArray.empty t127 0), .string (subs (subs (rdOf ByteArray.empty t123 0) (cat t122 (⟨#[32]⟩ : ByteArray)).size (rdOf ByteArray.empty t123 0).size) ((ji25) : Int).toNat (subs (rdOf ByteArray.empty t123 0) (cat t122 (⟨#[32]⟩ : ByteArray)).size (rdOf ByteArray.empty t123 0).size).size)] 40 (0, 0))) := ⟨zz95⟩
      have n3_ : Aside0 (Below w.heap.size w ((w34.setCell ⟨gb131, 0, none⟩ (.string (rdOf ByteArray.empty t127 0))).setCell ⟨gb131, 1, none⟩ (.string (subs (subs (rdOf ByteArray.empty t123 0) (cat t122 (⟨#[32]⟩ : ByteArray)).size (rdOf ByteArray.empty t123 0).size) ((ji25) : Int).toNat (subs (rdOf ByteArray.empty t123 0) (cat t122 (⟨#[32]⟩ : ByteArray)).size (rdOf ByteArray.empty t123 0).size).size)))) := ⟨zz52⟩
      (try clear HO129)
      (try clear BK121)
      (try clear BK131)
      (try clear HB)
      generalize ((w34.setCell ⟨gb131, 0, none⟩ (.string (rdOf ByteArray.empty t127 0))).setCell ⟨gb131, 1, none⟩ (.string (subs (subs (rdOf ByteArray.empty t123 0) (cat t122 (⟨#[32]⟩ : ByteArray)).size (rdOf ByteArray.empty t123 0).size) ((ji25) : Int).toNat (subs (rdOf ByteArray.empty t123 0) (cat t122 (⟨#[32]⟩ : ByteArray)).size (rdOf ByteArray.empty t123 0).size).size))) = w37 at n0_ n1_ n2_ n3_ ⊢
      have HO129 := n0_
      have BK121 := n1_
      have BK131 := n2_
      have HB := n3_
      clear n0_ n1_ n2_ n3_
      refine qs4 (Kd.R_drew HO129.out) (blk_drew BK121.out) (blk_drew BK131.out) (below_drew1 HB.out) ?_; clear HO129 BK121 BK131 HB; intro HO129 BK121 BK131 HB
      refine start_ (n := 13) (S := fun w' => w'.cell? ⟨gb131, 0, none⟩ = some (.string (rdOf ByteArray.empty t127 0)) ∧ w'.cell? ⟨gb131, 1, none⟩ = some (.string (subs (subs (rdOf ByteArray.empty t123 0) (cat t122 (⟨#[32]⟩ : ByteArray)).size (rdOf ByteArray.empty t123 0).size) ((ji25) : Int).toNat (subs (rdOf ByteArray.empty t123 0) (cat t122 (⟨#[32]⟩ : ByteArray)).size (rdOf ByteArray.empty t123 0).size).size))) (ds := []) #[false, false, false, false, false, false, false, false, false, false, false, false, false] (by kernel_rfl) rfl rfl ⟨(blk_cell BK131.out 0).trans rfl, (blk_cell BK131.out 1).trans rfl⟩ (fun hHeld => ?_); refine with_tabW spec_l27Read.tab10 spec_l27Read.bits10 (fun HT_ HW_ => ?_)
      generalize w37.drew = w38 at HO129 BK121 BK131 HB hHeld ⊢
      refine qt2 0 53 ?_; refine qt2 1 54 ?_
      refine one_ (i := 2) (N := some 55) #[true, true, true, false, false, false, false, false, false, false, false, false, false] rfl rfl (one_of HT_.out (by kernel_rfl)) (by decide) (fun K hK => ?_)
      refine goes_ Tryd.func44 (by kernel_rfl) rfl #[.agg #[.string (rdOf ByteArray.empty t127 0), .string (subs (subs (rdOf ByteArray.empty t123 0) (cat t122 (⟨#[32]⟩ : ByteArray)).size (rdOf ByteArray.empty t123 0).size) ((ji25) : Int).toNat (subs (rdOf ByteArray.empty t123 0) (cat t122 (⟨#[32]⟩ : ByteArray)).size (rdOf ByteArray.empty t123 0).size).size)]] (by rfl) rfl rfl zz44 ?_
      with_reducible refine (spec_l27Good.calls kj6 (rdOf ByteArray.empty t127 0) (subs (subs (rdOf ByteArray.empty t123 0) (cat t122 (⟨#[32]⟩ : ByteArray)).size (rdOf ByteArray.empty t123 0).size) ((ji25) : Int).toNat (subs (rdOf ByteArray.empty t123 0) (cat t122 (⟨#[32]⟩ : ByteArray)).size (rdOf ByteArray.empty t123 0).size).size) true _ A28.out).mono ?_
      rintro e w39 ⟨rfl, hb⟩
      refine ⟨_, rfl, ?_⟩
      refine qs4 (Kd.R_below (qr HO129.out) hb) (blk_below (qb BK121.out) hb) (blk_below (qb BK131.out) hb) (below_step zz52 hb) ?_; clear HO129 BK121 BK131 HB; intro HO129 BK121 BK131 HB
      (try clear hb)
      (try clear hb2)
      (try clear hk)
      (try clear hi)
      refine hK.out _ _ ⟨(blk_cell BK131.out 0).trans rfl, (blk_cell BK131.out 1).trans rfl⟩ (fun hHeld => ?_)
      clear hK K
      refine norm_ (a' := ?_) ?_ ?_
      rotate_left
      · show Act.put _ (some 55) _ = _
        simp only [Act.put, List.setIfInBounds_toArray, List.set_cons_zero, List.set_cons_succ, i64_w, i32_w]
        rfl
      refine qp 3 56 ?_; refine qp 4 57 ?_; refine qp 7 60 ?_; refine qp 8 61 ?_; refine qt2 5 58 ?_
      refine one_ (i := 6) (N := some 59) #[true, true, true, true, true, true, true, true, true, false, false, false, false] rfl rfl (one_of HT_.out (by kernel_rfl)) (by decide) (fun K hK => ?_)
      refine goes_ Tryd.func45 (by kernel_rfl) rfl #[.int .i64 a1, .agg #[.string (rdOf ByteArray.empty t127 0), .string (subs (subs (rdOf ByteArray.empty t123 0) (cat t122 (⟨#[32]⟩ : ByteArray)).size (rdOf ByteArray.empty t123 0).size) ((ji25) : Int).toNat (subs (rdOf ByteArray.empty t123 0) (cat t122 (⟨#[32]⟩ : ByteArray)).size (rdOf ByteArray.empty t123 0).size).size)]] (by rfl) rfl rfl zz44 ?_
      with_reducible refine (spec_l27Line.calls kj6 a1 (rdOf ByteArray.empty t127 0) (subs (subs (rdOf ByteArray.empty t123 0) (cat t122 (⟨#[32]⟩ : ByteArray)).size (rdOf ByteArray.empty t123 0).size) ((ji25) : Int).toNat (subs (rdOf ByteArray.empty t123 0) (cat t122 (⟨#[32]⟩ : ByteArray)).size (rdOf ByteArray.empty t123 0).size).size) t133 _ A30.out).mono ?_
      rintro e w40 ⟨rfl, hb⟩
      refine ⟨_, rfl, ?_⟩
      refine qs4 (Kd.R_below (qr HO129.out) hb) (blk_below (qb BK121.out) hb) (blk_below (qb BK131.out) hb) (below_step zz52 hb) ?_; clear HO129 BK121 BK131 HB; intro HO129 BK121 BK131 HB
      (try clear hb)
      (try clear hb2)
      (try clear hk)
      (try clear hi)
      refine hK.out _ _ ⟨(blk_cell BK131.out 0).trans rfl, (blk_cell BK131.out 1).trans rfl⟩ (fun hHeld => ?_)
      clear hK K
      refine norm_ (a' := ?_) ?_ ?_
      rotate_left
      · show Act.put _ (some 59) _ = _
        simp only [Act.put, List.setIfInBounds_toArray, List.set_cons_zero, List.set_cons_succ, i64_w, i32_w]
        rfl
      refine qp 9 62 ?_; refine qp 10 63 ?_
      refine one_ (i := 11) (N := none) #[true, true, true, true, true, true, true, true, true, true, true, true, false] rfl rfl (one_of HT_.out (by kernel_rfl)) (by decide) (fun K hK => ?_)
      have hs41 : w40.cell? ⟨gb121, 0, none⟩ = some (.string (⟨#[]⟩ : ByteArray)) := (blk_cell BK121.out 0).trans rfl
      have hfs41 := blk_frozen BK121.out 0
      have hns41_1 := NB131_121.out
      have hms41_1 := NB121_131.out
      have hs42 : w40.cell? ⟨gb121, 1, none⟩ = some (.string (⟨#[]⟩ : ByteArray)) := (blk_cell BK121.out 1).trans rfl
      have hfs42 := blk_frozen BK121.out 1
      have hns42_1 := NB131_121.out
      have hms42_1 := NB121_131.out
      refine skip_ (w1 := ?_) (by rfl) rfl ?_ ?_
      rotate_left
      · go_simp
        rfl
      refine hK.out _ _ ⟨((cell_far (p := ⟨gb121, _, none⟩) NB131_121.out _).trans (((cell_far (p := ⟨gb121, _, none⟩) NB131_121.out _).trans (hHeld.1)))), ((cell_far (p := ⟨gb121, _, none⟩) NB131_121.out _).trans (((cell_far (p := ⟨gb121, _, none⟩) NB131_121.out _).trans (hHeld.2))))⟩ (fun hHeld => ?_)
      clear hK K
      refine qp 12 5 ?_
      refine done_ (done_of HT_.out (by kernel_rfl)) ?_
      try go_wp2
      refine bodyPost_ret (results_ct rfl _ _ gb121 40 #[.string (rdOf ByteArray.empty t127 0), .string (subs (subs (rdOf ByteArray.empty t123 0) (cat t122 (⟨#[32]⟩ : ByteArray)).size (rdOf ByteArray.empty t123 0).size) ((ji25) : Int).toNat (subs (rdOf ByteArray.empty t123 0) (cat t122 (⟨#[32]⟩ : ByteArray)).size (rdOf ByteArray.empty t123 0).size).size)] (0, 0) _ rfl zz96 Tryd.underlying40 rfl (by kernel_rfl)) rfl ?_
      exact ⟨by first | rfl | (simp [errW_none, errW_some] <;> rfl) | (simp only [← hji25]; first | rfl | (simp [errW_none, errW_some] <;> rfl)) | (simp [*, errW_none, errW_some] <;> rfl), zz52⟩

end

end Go.Proofs.YtokmidpeeejahaaDoor.G

-- Written by a program of this session (wip/pd.py), which calls the kit's print; externals' contracts by hand.
namespace Go.Proofs.YtokmidpeeejahaaDoor.G
open Go.Proofs.YtokmidpeeejahaaDoorQ
open Go.RowKit Go.Proofs.YtokmidpeeejahaaDoorW.PrintWords Go.Proofs.YtokmidpeeejahaaDoorW.PrintLast Go.Proofs.YtokmidpeeejahaaDoorW.PrintMore
attribute [local go_sem] max2_int min2_int max_two min_two max_three min_three max_four min_four   -- for this text's walks alone
set_option linter.unusedVariables false
set_option linter.unusedSimpArgs false

section
attribute [local go_sem high] run_add_cat run_slice_cat run_slice_cat_h run_slice_cat_l run_slice_cat_all
/-! ### spec_l27Open: function 46 -/
mutual
def spec_l27Open.l0 : Nat → ByteArray → List (S40) → Int → Option ((List (S40)) × Int)
  | 0, _, _, _ => none
  | k + 1, x0, x4, x5 => if x5 < (x0.size : Int) then (spec_l27Open.j1 k x0 x4 x5 (decide ((x4.length : Int) < 60))) else (spec_l27Open.j1 k x0 x4 x5 false)
def spec_l27Open.j1 : Nat → ByteArray → List (S40) → Int → Bool → Option ((List (S40)) × Int)
  | 0, _, _, _, _ => none
  | k + 1, x0, x4, x5, x18 => if x18 = true then (if 0 ≤ x5 then (if x5 ≤ (x0.size : Int) then ((spec_l1Split.f k (subs x0 (x5 : Int).toNat x0.size) 10).bind fun t137 => (if 0 < (t137.length : Int) then ((spec_l27Read.f k (rdOf ByteArray.empty t137 0) (x4.length : Int)).bind fun bt141 => (if (t137.length : Int) < 2 then (some (x4, x5)) else (if bt141.2.2 = true then (if x4.length < 4398046511104 then (spec_l27Open.l0 k x0 (x4 ++ [(⟨bt141.1, bt141.2.1⟩ : S40)]) (wrap64 ((wrap64 (x5 + ((rdOf ByteArray.empty t137 0).size : Int))) + 1))) else (none)) else (some (x4, x5))))) else (none))) else (none)) else (none)) else (some (x4, x5))
end
def spec_l27Open.f (k : Nat) (a0 : ByteArray) : Option ((List (S40)) × Int) := spec_l27Open.l0 k a0 (([] : List (S40))) 0
set_option maxHeartbeats 8000000 in
set_option maxRecDepth 100000 in
theorem spec_l27Open.calls (k : Nat) (a0 : ByteArray) (r1 : List (S40)) (r2 : Int) (w : World) (h : spec_l27Open.f k a0 = some (r1, r2)) :
    Calls Tryd.prog 46 #[.string a0] w fun e w' => ∃ v0_ : Value, e = .returned (.tuple #[v0_, .int .i64 r2]) ∧ Kd.R k40 40 w' w.heap.size (fun _ => True) v0_ r1 ∧ Below w.heap.size w w' := by
  have hu40 := Tryd.underlying40
  have HB := Aside0.mk (Below.refl w.heap.size w)
  have H : (spec_l27Open.l0 k a0 (([] : List (S40))) 0) = some (r1, r2) := h
  clear h
  obtain ⟨y134, hy134⟩ : ∃ y_ : List (S40), y_ = (([] : List (S40))) := ⟨_, rfl⟩
  replace H : (spec_l27Open.l0 k a0 y134 0) = some (r1, r2) := by first | (rw [hy134]; with_reducible exact H) | (have H2_ := (Option.bind_some _ _).symm.trans H; rw [hy134]; with_reducible exact H2_) | (have H2_ := (Option.bind_some _ _).symm.trans H; with_reducible exact H2_) | with_reducible exact H | (rw [hy134]; exact H) | exact H
  have Ny134 := Aside0.mk hy134
  clear hy134
  have H' := Aside0.mk H
  clear H
  go_enter Tryd.func46, Tryd.ntmps46
  go_wp2_with (first | ((with_reducible refine gate_dst (N := 9) rfl ?_); (try (refine gate_guard (by rfl) ?_; dsimp only)); refine Kd.R_lit k40 _ 40 ?hg (N := 9) ?hd (xs := ([] : List (S40))) (inner := []) (ok := fun _ => True) (okp := fun _ => True) ?hr ?hp (fun _ hk => hk) trivial (Below.refl _ _) (Nat.le_refl _) (by simp) ?_; (case hd => rfl); (case hg => rfl); (case hr => exact zz2); (case hp => exact (Reps.none _ _)); intro v135 w2 ho3 hb hg_ hnew_; clear hg_ hnew_; (first | rw [← Ny134.out] at ho3 | (simp only [Int.reduceToNat] at ho3; rw [← Ny134.out] at ho3)); refine qs2 (Kd.R_lower ho3 (below_size zz20)) (below_step zz20 hb) ?_; clear HB; intro HO136 HB; clear hb ho3))
  go_loopg [4, 5] k (fun kq v4 v5 w' => ∃ (x4_1 : List (S40)) (x5_1 : Int), v5 = .int .i64 x5_1 ∧ Aside0 (spec_l27Open.l0 kq a0 x4_1 x5_1 = some (r1, r2)) ∧ Aside0 (kq ≤ k) ∧ Aside0 (Kd.R k40 40 w' w.heap.size (fun _ => True) v4 x4_1) ∧ Aside0 (Below w.heap.size w w'))
  case atStart => exact ⟨(y134), (0), zz3, H', ⟨Nat.le_refl _⟩, ⟨by (with_reducible repeat (first | apply Kd.R_alloc | apply Kd.R_drewN | apply Kd.R_drew)); exact HO136.out⟩, ⟨zz20⟩⟩
  case round =>
    clear H'
    try clear p2
    obtain ⟨x4_1, x5_1, rfl, HA, HK1, HO_4, HB⟩ := hrel
    cases gk with
    | zero => exact absurd HA.out (by simp [spec_l27Open.l0])
    | succ k1 =>
      have H := HA.out
      clear HA
      simp only [spec_l27Open.l0] at H
      have HC4 := Aside0.mk H
      clear H
      go_upto_region 3 with (fail)
      go_cut [18] (fun v18 wc => ∃ (kq : Nat) (x18_3 : Bool), v18 = .bool x18_3 ∧ Aside0 (spec_l27Open.j1 kq a0 x4_1 x5_1 x18_3 = some (r1, r2)) ∧ Aside0 (kq ≤ k1) ∧ Aside0 (Kd.R k40 40 wc w.heap.size (fun _ => True) u4 x4_1) ∧ Aside0 (Below w.heap.size w wc))
      case first =>
        have H := HC4.out
        clear HC4
        by_cases c5 : x5_1 < (a0.size : Int)
        rotate_left
        · rw [if_neg c5] at H
          have c5b0 := decide_eq_false c5
          clear c5
          (first | rw [c5b0] | (simp only [i64_w, i32_w]; rw [c5b0]) | skip)
          have H' := Aside0.mk H
          clear H
          go_wp2
          go_meet
          case rel => exact ⟨_, (false), zz3, H', ⟨by have := HK1.out; first | omega | exact Nat.le_refl _⟩, ⟨zz8⟩, ⟨zz20⟩⟩
        rw [if_pos c5] at H
        have c5b0 := decide_eq_true c5
        clear c5
        (first | rw [c5b0] | (simp only [i64_w, i32_w]; rw [c5b0]) | skip)
        have H' := Aside0.mk H
        clear H
        obtain ⟨Ao6, co6, eo6⟩ := Kd.R_slice HO_4.out
        subst eo6
        go_wp2
        go_meet
        case rel => exact ⟨_, (decide ((x4_1.length : Int) < 60)), zz3, H', ⟨by have := HK1.out; first | omega | exact Nat.le_refl _⟩, ⟨zz8⟩, ⟨zz20⟩⟩
      case rest =>
        clear HC4
        try clear p2
        try clear c4
        try clear c5
        try clear c5b0
        try clear p2
        obtain ⟨kq, x18_3, rfl, HA, HJ3, HO_4, HB⟩ := hcut
        cases kq with
        | zero => exact absurd HA.out (by simp [spec_l27Open.j1])
        | succ kj3 =>
          have H := HA.out
          clear HA
          simp only [spec_l27Open.j1] at H
          by_cases c7 : x18_3 = true
          rotate_left
          · replace c7 := Bool.eq_false_iff.mpr c7
            subst c7
            rw [if_neg (show ¬ (false = true) by decide)] at H
            simp only [Option.some.injEq, Prod.mk.injEq] at H
            obtain ⟨rfl, rfl⟩ := H
            go_wp2
            go_ret2
            exact ⟨_, zz7, zz8, zz20⟩
          subst c7
          rw [if_pos rfl] at H
          by_cases c8 : 0 ≤ x5_1
          rotate_left
          · rw [if_neg c8] at H
            exact absurd H (by simp)
          rw [if_pos c8] at H
          have c8b0 := eq_true c8
          have c8b1 := decide_eq_true c8
          clear c8
          by_cases c9 : x5_1 ≤ (a0.size : Int)
          rotate_left
          · rw [if_neg c9] at H
            exact absurd H (by simp)
          rw [if_pos c9] at H
          have c9b0 := eq_true c9
          have c9b1 := decide_eq_true c9
          clear c9
          replace H := Option.bind_eq_some_iff.mp H
          obtain ⟨t137, A100, H⟩ := H
          (try dsimp only at H)
          have A10 := Aside0.mk A100
          clear A100
          by_cases c11 : 0 < (t137.length : Int)
          rotate_left
          · rw [if_neg c11] at H
            exact absurd H (by simp)
          rw [if_pos c11] at H
          have c11b0 := decide_eq_true c11
          have c11b1 : decide (0 < t137.length) = true := decide_eq_true (by omega)
          clear c11
          replace H := Option.bind_eq_some_iff.mp H
          obtain ⟨⟨t141, t142, t143⟩, A120, H⟩ := H
          (try dsimp only at H)
          have A12 := Aside0.mk A120
          clear A120
          by_cases c13 : (t137.length : Int) < 2
          · rw [if_pos c13] at H
            have c13b0 := decide_eq_true c13
            have c13b1 : decide (t137.length < 2) = true := decide_eq_true (by omega)
            clear c13
            simp only [Option.some.injEq, Prod.mk.injEq] at H
            obtain ⟨rfl, rfl⟩ := H
            go_wp2_with (first | ((with_reducible refine gate_callee (f := 65) rfl ?_); refine qcall 22 Tryd.func65 rfl #[.string (subs a0 (x5_1 : Int).toNat a0.size), .int .u8 10] ?_; (with_reducible refine (spec_l1Split.calls kj3 (subs a0 (x5_1 : Int).toNat a0.size) 10 t137 _ A10.out).mono ?_); rintro e w14 ⟨v138, rfl, ho0, hb⟩; refine ⟨_, rfl, ?_⟩; refine qs3 (Kd.R_below (qr HO_4.out) hb) (Kd.R_lower ho0 (below_size zz20)) (below_step zz20 hb) ?_; clear HO_4 HB; intro HO_4 HO139 HB; (try clear hb); (try clear hb2); (try clear hk); (try clear hi); (try clear ho0); obtain ⟨Ao15, co15, eo15⟩ := Kd.R_slice HO139.out; subst eo15; have p140 : 0 ≤ (0 : Int) := (by omega); have q140 : 0 < (t137.length : Int) := of_decide_eq_true zz4; obtain ⟨ad140, e140, hx140_0⟩ := Kd.at_string (Kd.R_reads' HO139.out).2.2 0 p140 q140; cases e140; have qi140 : (0 < t137.length) = True := eq_true (by omega); (try rw [show ((0 : Int)).toNat = 0 from rfl] at hx140_0); (try rw [Addr.add_zero'] at hx140_0); replace p140 := eq_true p140; replace q140 := eq_true q140; obtain ⟨Ao16, co16, eo16⟩ := Kd.R_slice HO_4.out; subst eo16) | ((with_reducible refine gate_callee (f := 66) rfl ?_); refine qcall 29 Tryd.func66 rfl #[.string (rdOf ByteArray.empty t137 0), .int .i64 (x4_1.length : Int)] ?_; (with_reducible refine (spec_l27Read.calls kj3 (rdOf ByteArray.empty t137 0) (x4_1.length : Int) t141 t142 t143 _ A12.out).mono ?_); rintro e w17 ⟨rfl, hb⟩; refine ⟨_, rfl, ?_⟩; refine qs3 (Kd.R_below (qr HO_4.out) hb) (Kd.R_below (qr HO139.out) hb) (below_step zz20 hb) ?_; clear HO_4 HO139 HB; intro HO_4 HO139 HB; (try clear hb); (try clear hb2); (try clear hk); (try clear hi)) | ((with_reducible refine gate_dst (N := 7) rfl ?_); (try (refine gate_guard (by rfl) ?_; dsimp only)); refine qbox (N := 7) (cs := #[.string (⟨#[]⟩ : ByteArray), .string (⟨#[]⟩ : ByteArray)]) (t := 40) ?_; intro gb144 hg w18 hbox hb; refine qs6 (Kd.R_below (Kd.R_elderB (qr HO_4.out) gb144 (Nat.le_of_eq hg.symm)) hb) (Kd.R_below (qr HO139.out) hb) (below_step zz20 hb) (hbox) ((zz119 : w.heap.size ≤ gb144)) ((zz119 : w.heap.size ≤ gb144)) ?_; clear HO_4 HO139 HB; intro HO_4 HO139 HB BK144 GW144 GE144; clear hb hbox hg; obtain ⟨hcz19_0, hcz19_1, hfz19_0, hfz19_1⟩ := qc2 BK144.out))
            go_ret2
            exact ⟨_, zz7, zz86, zz36⟩
          rw [if_neg c13] at H
          have c13b0 := decide_eq_false c13
          have c13b1 : decide (t137.length < 2) = false := decide_eq_false (by omega)
          clear c13
          by_cases c20 : t143 = true
          rotate_left
          · replace c20 := Bool.eq_false_iff.mpr c20
            subst c20
            rw [if_neg (show ¬ (false = true) by decide)] at H
            simp only [Option.some.injEq, Prod.mk.injEq] at H
            obtain ⟨rfl, rfl⟩ := H
            go_wp2_with (first | ((with_reducible refine gate_callee (f := 65) rfl ?_); refine qcall 22 Tryd.func65 rfl #[.string (subs a0 (x5_1 : Int).toNat a0.size), .int .u8 10] ?_; (with_reducible refine (spec_l1Split.calls kj3 (subs a0 (x5_1 : Int).toNat a0.size) 10 t137 _ A10.out).mono ?_); rintro e w29 ⟨v138, rfl, ho0, hb⟩; refine ⟨_, rfl, ?_⟩; refine qs3 (Kd.R_below (qr HO_4.out) hb) (Kd.R_lower ho0 (below_size zz20)) (below_step zz20 hb) ?_; clear HO_4 HB; intro HO_4 HO139 HB; (try clear hb); (try clear hb2); (try clear hk); (try clear hi); (try clear ho0); obtain ⟨Ao30, co30, eo30⟩ := Kd.R_slice HO139.out; subst eo30; have p140 : 0 ≤ (0 : Int) := (by omega); have q140 : 0 < (t137.length : Int) := of_decide_eq_true zz4; obtain ⟨ad140, e140, hx140_0⟩ := Kd.at_string (Kd.R_reads' HO139.out).2.2 0 p140 q140; cases e140; have qi140 : (0 < t137.length) = True := eq_true (by omega); (try rw [show ((0 : Int)).toNat = 0 from rfl] at hx140_0); (try rw [Addr.add_zero'] at hx140_0); replace p140 := eq_true p140; replace q140 := eq_true q140; obtain ⟨Ao31, co31, eo31⟩ := Kd.R_slice HO_4.out; subst eo31) | ((with_reducible refine gate_callee (f := 66) rfl ?_); refine qcall 29 Tryd.func66 rfl #[.string (rdOf ByteArray.empty t137 0), .int .i64 (x4_1.length : Int)] ?_; (with_reducible refine (spec_l27Read.calls kj3 (rdOf ByteArray.empty t137 0) (x4_1.length : Int) t141 t142 false _ A12.out).mono ?_); rintro e w32 ⟨rfl, hb⟩; refine ⟨_, rfl, ?_⟩; refine qs3 (Kd.R_below (qr HO_4.out) hb) (Kd.R_below (qr HO139.out) hb) (below_step zz20 hb) ?_; clear HO_4 HO139 HB; intro HO_4 HO139 HB; (try clear hb); (try clear hb2); (try clear hk); (try clear hi)) | ((with_reducible refine gate_dst (N := 7) rfl ?_); (try (refine gate_guard (by rfl) ?_; dsimp only)); refine qbox (N := 7) (cs := #[.string (⟨#[]⟩ : ByteArray), .string (⟨#[]⟩ : ByteArray)]) (t := 40) ?_; intro gb144 hg w33 hbox hb; refine qs6 (Kd.R_below (Kd.R_elderB (qr HO_4.out) gb144 (Nat.le_of_eq hg.symm)) hb) (Kd.R_below (qr HO139.out) hb) (below_step zz20 hb) (hbox) ((zz119 : w.heap.size ≤ gb144)) ((zz119 : w.heap.size ≤ gb144)) ?_; clear HO_4 HO139 HB; intro HO_4 HO139 HB BK144 GW144 GE144; clear hb hbox hg; obtain ⟨hcz34_0, hcz34_1, hfz34_0, hfz34_1⟩ := qc2 BK144.out))
            go_ret2
            exact ⟨_, zz7, zz86, zz36⟩
          subst c20
          rw [if_pos rfl] at H
          by_cases c21 : x4_1.length < 4398046511104
          rotate_left
          · rw [if_neg c21] at H
            exact absurd H (by simp)
          rw [if_pos c21] at H
          have LMc21 := Aside0.mk c21
          clear c21
          obtain ⟨y145, hy145⟩ : ∃ y_ : List (S40), y_ = (x4_1 ++ [(⟨t141, t142⟩ : S40)]) := ⟨_, rfl⟩
          replace H : (spec_l27Open.l0 kj3 a0 y145 (wrap64 ((wrap64 (x5_1 + ((rdOf ByteArray.empty t137 0).size : Int))) + 1))) = some (r1, r2) := by first | (rw [hy145]; with_reducible exact H) | (have H2_ := (Option.bind_some _ _).symm.trans H; rw [hy145]; with_reducible exact H2_) | (have H2_ := (Option.bind_some _ _).symm.trans H; with_reducible exact H2_) | with_reducible exact H | (rw [hy145]; exact H) | exact H
          have Ny145 := Aside0.mk hy145
          clear hy145
          have H' := Aside0.mk H
          clear H
          go_wp2_with (first | ((with_reducible refine gate_callee (f := 65) rfl ?_); refine qcall 22 Tryd.func65 rfl #[.string (subs a0 (x5_1 : Int).toNat a0.size), .int .u8 10] ?_; (with_reducible refine (spec_l1Split.calls kj3 (subs a0 (x5_1 : Int).toNat a0.size) 10 t137 _ A10.out).mono ?_); rintro e w22 ⟨v138, rfl, ho0, hb⟩; refine ⟨_, rfl, ?_⟩; refine qs3 (Kd.R_below (qr HO_4.out) hb) (Kd.R_lower ho0 (below_size zz20)) (below_step zz20 hb) ?_; clear HO_4 HB; intro HO_4 HO139 HB; (try clear hb); (try clear hb2); (try clear hk); (try clear hi); (try clear ho0); obtain ⟨Ao23, co23, eo23⟩ := Kd.R_slice HO139.out; subst eo23; have p140 : 0 ≤ (0 : Int) := (by omega); have q140 : 0 < (t137.length : Int) := of_decide_eq_true zz4; obtain ⟨ad140, e140, hx140_0⟩ := Kd.at_string (Kd.R_reads' HO139.out).2.2 0 p140 q140; cases e140; have qi140 : (0 < t137.length) = True := eq_true (by omega); (try rw [show ((0 : Int)).toNat = 0 from rfl] at hx140_0); (try rw [Addr.add_zero'] at hx140_0); replace p140 := eq_true p140; replace q140 := eq_true q140; obtain ⟨Ao24, co24, eo24⟩ := Kd.R_slice HO_4.out; subst eo24) | ((with_reducible refine gate_callee (f := 66) rfl ?_); refine qcall 29 Tryd.func66 rfl #[.string (rdOf ByteArray.empty t137 0), .int .i64 (x4_1.length : Int)] ?_; (with_reducible refine (spec_l27Read.calls kj3 (rdOf ByteArray.empty t137 0) (x4_1.length : Int) t141 t142 true _ A12.out).mono ?_); rintro e w25 ⟨rfl, hb⟩; refine ⟨_, rfl, ?_⟩; refine qs3 (Kd.R_below (qr HO_4.out) hb) (Kd.R_below (qr HO139.out) hb) (below_step zz20 hb) ?_; clear HO_4 HO139 HB; intro HO_4 HO139 HB; (try clear hb); (try clear hb2); (try clear hk); (try clear hi)) | ((with_reducible refine gate_dst (N := 7) rfl ?_); (try (refine gate_guard (by rfl) ?_; dsimp only)); refine qbox (N := 7) (cs := #[.string (⟨#[]⟩ : ByteArray), .string (⟨#[]⟩ : ByteArray)]) (t := 40) ?_; intro gb144 hg w26 hbox hb; refine qs6 (Kd.R_below (Kd.R_elderB (qr HO_4.out) gb144 (Nat.le_of_eq hg.symm)) hb) (Kd.R_below (qr HO139.out) hb) (below_step zz20 hb) (hbox) ((zz119 : w.heap.size ≤ gb144)) ((zz119 : w.heap.size ≤ gb144)) ?_; clear HO_4 HO139 HB; intro HO_4 HO139 HB BK144 GW144 GE144; clear hb hbox hg; obtain ⟨hcz27_0, hcz27_1, hfz27_0, hfz27_1⟩ := qc2 BK144.out) | ((with_reducible refine gate_builtin (b := .append) (xs := #[.tmp 39, .tmp 41]) rfl ?_); (try (refine gate_guard (by rfl) ?_; dsimp only)); at_builtin; refine Kd.R_append k40 (w0 := w) w.heap.size rfl (.tmp 39) (.tmp 41) 43 40 (.agg #[(.string ⟨#[]⟩), (.string ⟨#[]⟩)]) 32 rfl Tryd.underlying43 info40 rfl (by decide) (by omega) (.slice Ao24 x4_1.length co24) x4_1 (⟨t141, t142⟩ : S40) [.string t141, .string t142] (fun k_ => k_ ≠ gb144) (fun _ => False) rfl zz2 ?aP (fun _ hk => hk.elim) ?aF ?aO ?aB ?aS ?aL ?_; (case aP => exact k40_mkM _ _ _ (⟨t141, t142⟩ : S40)); (case aB => exact zz36); (case aF => exact (fun k_ hk => Kd.freshB (g := gb144) (o := .cells #[.string t141, .string t142] 40 (0, 0)) zz92 k_ hk)); (case aO => exact (by (with_reducible repeat (first | apply Kd.R_alloc | apply Kd.R_drewN | apply Kd.R_drew)); exact Kd.R_mono (Kd.R_far (p := ⟨gb144, 1, none⟩) (Kd.R_far (p := ⟨gb144, 0, none⟩) (Kd.R_mono HO_4.out (fun k_ hk => (⟨hk, hk.2⟩ : _ ∧ k_ ≠ gb144))) (fun _ hk => hk.2) (.string t141)) (fun _ hk => hk.2) (.string t142)) (fun _ hk => hk.1.2))); (case aS => exact (below_size zz36)); (case aL => have := LMc21.out; omega); intro v146 w28 ho hb hg hat; rw [← Ny145.out] at ho; refine qs4 (Kd.R_over' (by (with_reducible repeat (first | apply Kd.R_alloc | apply Kd.R_drewN | apply Kd.R_drew)); exact (Kd.R_mono (Kd.R_far (p := ⟨gb144, 1, none⟩) (Kd.R_far (p := ⟨gb144, 0, none⟩) (Kd.R_types HO139.out BK144.out (by decide)) (fun _ hk => hk.2) (.string t141)) (fun _ hk => hk.2) (.string t142)) (fun _ h_ => h_.1))) (Kd.R_typed (by (with_reducible repeat (first | apply Kd.R_alloc | apply Kd.R_drewN | apply Kd.R_drew)); exact (Kd.R_mono (Kd.R_far (p := ⟨gb144, 1, none⟩) (Kd.R_far (p := ⟨gb144, 0, none⟩) (Kd.R_mono HO_4.out (fun k_ hk => (⟨hk, hk.2⟩ : _ ∧ k_ ≠ gb144))) (fun _ hk => hk.2) (.string t141)) (fun _ hk => hk.2) (.string t142)) (fun _ h_ => h_.1)))) (by decide) hg) (blk_grown (g := gb144) (o := .cells #[.string t141, .string t142] 40 (0, 0)) zz92 hg (Kd.R_away HO_4.out (fun _ hk => hk.2))) (hb) (ho) ?_; clear HO139 BK144 HB HO_4; intro HO139 BK144 HB HO147; clear ho hb hg hat; have p148 : 0 ≤ (0 : Int) := (by omega); have q148 : 0 < (t137.length : Int) := of_decide_eq_true zz4; obtain ⟨ad148, e148, hx148_0⟩ := Kd.at_string (Kd.R_reads' HO139.out).2.2 0 p148 q148; obtain rfl : ad140 = ad148 := (by injection e148); have qi148 : (0 < t137.length) = True := eq_true (by omega); (try rw [show ((0 : Int)).toNat = 0 from rfl] at hx148_0); (try rw [Addr.add_zero'] at hx148_0); replace p148 := eq_true p148; replace q148 := eq_true q148))
          go_roundg kj3
          case measure => have := HK1.out; have := HJ3.out; omega
          case rel => exact ⟨(y145), (wrap64 ((wrap64 (x5_1 + ((rdOf ByteArray.empty t137 0).size : Int))) + 1)), zz3, H', ⟨by have := HK1.out; have := HJ3.out; omega⟩, ⟨by (with_reducible repeat (first | apply Kd.R_alloc | apply Kd.R_drewN | apply Kd.R_drew)); exact Kd.R_mono HO147.out (fun _ hk => trivial)⟩, ⟨zz36⟩⟩

end

section
attribute [local go_sem high] run_add_cat run_slice_cat run_slice_cat_h run_slice_cat_l run_slice_cat_all
/-! ### spec_l27Log: function 40 -/
def spec_l27Log.j0 : Nat → Bool → Option (Bool)
  | 0, _ => none
  | k + 1, x2 => some x2
def spec_l27Log.f (k : Nat) (a0_0 : ByteArray) (a0_1 : ByteArray) (a0_2 : Int) : Option (Bool) := if (wrap64 ((a0_0.size : Int) + (a0_1.size : Int))) > 30000 then (some false) else (if a0_0.size + a0_1.size ≤ 9223372036854775807 then ((spec_l27Open.f k (cat a0_0 a0_1)).bind fun bt150 => ((spec_l27Open.f k a0_0).bind fun bt154 => (if bt150.2 = (wrap64 ((a0_0.size : Int) + (a0_1.size : Int))) then (if bt154.2 = (a0_0.size : Int) then (spec_l27Log.j0 k ((bt150.1.length : Int) == a0_2)) else (spec_l27Log.j0 k false)) else (spec_l27Log.j0 k false)))) else (none))
set_option maxHeartbeats 8000000 in
set_option maxRecDepth 100000 in
theorem spec_l27Log.calls (k : Nat) (a0_0 : ByteArray) (a0_1 : ByteArray) (a0_2 : Int) (r : Bool) (w : World) (h : spec_l27Log.f k a0_0 a0_1 a0_2 = some r) :
    Calls Tryd.prog 40 #[.agg #[.string a0_0, .string a0_1, .int .i64 a0_2]] w fun e w' => e = .returned (.bool r) ∧ Below w.heap.size w w' := by
  have hu26 := Tryd.underlying26
  have HB := Aside0.mk (Below.refl w.heap.size w)
  unfold spec_l27Log.f at h
  have H := h
  clear h
  by_cases c2 : (wrap64 ((a0_0.size : Int) + (a0_1.size : Int))) > 30000
  · rw [if_pos c2] at H
    have c2b0 := decide_eq_true c2
    clear c2
    obtain rfl := Option.some.inj H
    go_enter Tryd.func40, Tryd.ntmps40
    go_wp2_with (first | ((with_reducible refine gate_dst (N := 1) rfl ?_); (try (refine gate_guard (by rfl) ?_; dsimp only)); refine qbox (N := 1) (cs := #[.string a0_0, .string a0_1, .int .i64 a0_2]) (t := 26) ?_; intro gb149 hg w3 hbox hb; refine qs4 (below_step zz20 hb) (hbox) ((zz119 : w.heap.size ≤ gb149)) ((zz119 : w.heap.size ≤ gb149)) ?_; clear HB; intro HB BK149 GW149 GE149; clear hb hbox hg; obtain ⟨hcz4_0, hcz4_1, hcz4_2, hfz4_0, hfz4_1, hfz4_2⟩ := qc3 BK149.out))
    go_ret
    exact ⟨zz7, zz31⟩
  rw [if_neg c2] at H
  have c2b0 := decide_eq_false c2
  clear c2
  by_cases c5 : a0_0.size + a0_1.size ≤ 9223372036854775807
  rotate_left
  · rw [if_neg c5] at H
    exact absurd H (by simp)
  rw [if_pos c5] at H
  have c5b0 := eq_true c5
  have c5b1 := decide_eq_true c5
  try have c5b2 := eq_false (Nat.not_lt.2 c5)
  clear c5
  replace H := Option.bind_eq_some_iff.mp H
  obtain ⟨⟨t150, t151⟩, A60, H⟩ := H
  (try dsimp only at H)
  have A6 := Aside0.mk A60
  clear A60
  replace H := Option.bind_eq_some_iff.mp H
  obtain ⟨⟨t154, t155⟩, A70, H⟩ := H
  (try dsimp only at H)
  have A7 := Aside0.mk A70
  clear A70
  have HC8 := Aside0.mk H
  clear H
  go_enter Tryd.func40, Tryd.ntmps40
  go_upto_region 5 with (first | ((with_reducible refine gate_dst (N := 1) rfl ?_); (try (refine gate_guard (by rfl) ?_; dsimp only)); refine qbox (N := 1) (cs := #[.string a0_0, .string a0_1, .int .i64 a0_2]) (t := 26) ?_; intro gb149 hg w9 hbox hb; refine qs4 (below_step zz20 hb) (hbox) ((zz119 : w.heap.size ≤ gb149)) ((zz119 : w.heap.size ≤ gb149)) ?_; clear HB; intro HB BK149 GW149 GE149; clear hb hbox hg; obtain ⟨hcz10_0, hcz10_1, hcz10_2, hfz10_0, hfz10_1, hfz10_2⟩ := qc3 BK149.out) | ((with_reducible refine gate_callee (f := 46) rfl ?_); refine qcall 21 Tryd.func46 rfl #[.string (cat a0_0 a0_1)] ?_; (with_reducible refine (spec_l27Open.calls k (cat a0_0 a0_1) t150 t151 _ A6.out).mono ?_); rintro e w11 ⟨v152, rfl, ho0, hb⟩; refine ⟨_, rfl, ?_⟩; refine qs3 (Kd.R_lower ho0 (below_size zz31)) (blk_below (qb BK149.out) hb) (below_step zz31 hb) ?_; clear BK149 HB; intro HO153 BK149 HB; (try clear hb); (try clear hb2); (try clear hk); (try clear hi); (try clear ho0); obtain ⟨hcz12_0, hcz12_1, hcz12_2, hfz12_0, hfz12_1, hfz12_2⟩ := qc3 BK149.out) | ((with_reducible refine gate_callee (f := 46) rfl ?_); refine qcall 27 Tryd.func46 rfl #[.string a0_0] ?_; (with_reducible refine (spec_l27Open.calls k a0_0 t154 t155 _ A7.out).mono ?_); rintro e w13 ⟨v156, rfl, ho0, hb⟩; refine ⟨_, rfl, ?_⟩; refine qs4 (Kd.R_elder' (qr HO153.out) (Kd.R_base ho0) hb) (Kd.R_lower (Kd.R_new' ho0 (Kd.R_lt (qr HO153.out))) (below_size zz31)) (blk_below (qb BK149.out) hb) (below_step zz31 hb) ?_; clear HO153 BK149 HB; intro HO153 HO157 BK149 HB; (try clear hb); (try clear hb2); (try clear hk); (try clear hi); (try clear ho0)))
  (try simp only [Act.put, List.setIfInBounds_toArray, List.set_cons_zero, List.set_cons_succ])
  go_cut [2] (fun v2 wc => ∃ (kq : Nat) (x2_7 : Bool), v2 = .bool x2_7 ∧ Aside0 (spec_l27Log.j0 kq x2_7 = some r) ∧ Aside0 (kq ≤ k) ∧ Aside0 (wc.heap[gb149]? = some (.cells #[.string a0_0, .string a0_1, .int .i64 a0_2] 26 (0, 0))) ∧ Aside0 (Below w.heap.size w wc))
  case first =>
    have H := HC8.out
    clear HC8
    by_cases c14 : t151 = (wrap64 ((a0_0.size : Int) + (a0_1.size : Int)))
    rotate_left
    · rw [if_neg c14] at H
      have c14b0 := beq_eq_false_iff_ne.mpr c14
      have c14b1 := bne_iff_ne.mpr c14
      (first | rw [c14b0] | (simp only [i64_w, i32_w]; rw [c14b0]) | skip)
      have H' := Aside0.mk H
      clear H
      obtain ⟨hcz19_0, hcz19_1, hcz19_2, hfz19_0, hfz19_1, hfz19_2⟩ := qc3 BK149.out
      go_wp2
      go_meet
      case rel => exact ⟨_, (false), zz3, H', ⟨zz1⟩, ⟨zz15⟩, ⟨zz31⟩⟩
    rw [if_pos c14] at H
    have c14b0 := beq_iff_eq.mpr c14
    have c14b1 := bne_eq_false_iff_eq.mpr c14
    clear c14
    (first | rw [c14b0] | (simp only [i64_w, i32_w]; rw [c14b0]) | skip)
    by_cases c15 : t155 = (a0_0.size : Int)
    rotate_left
    · rw [if_neg c15] at H
      have c15b0 := beq_eq_false_iff_ne.mpr c15
      have c15b1 := bne_iff_ne.mpr c15
      have H' := Aside0.mk H
      clear H
      obtain ⟨hcz18_0, hcz18_1, hcz18_2, hfz18_0, hfz18_1, hfz18_2⟩ := qc3 BK149.out
      go_wp2
      go_meet
      case rel => exact ⟨_, (false), zz3, H', ⟨zz1⟩, ⟨zz15⟩, ⟨zz31⟩⟩
    rw [if_pos c15] at H
    have c15b0 := beq_iff_eq.mpr c15
    have c15b1 := bne_eq_false_iff_eq.mpr c15
    clear c15
    have H' := Aside0.mk H
    clear H
    obtain ⟨hcz16_0, hcz16_1, hcz16_2, hfz16_0, hfz16_1, hfz16_2⟩ := qc3 BK149.out
    obtain ⟨Ao17, co17, eo17⟩ := Kd.R_slice HO153.out
    subst eo17
    go_wp2
    go_meet
    case rel => exact ⟨_, (((t150.length : Int) == a0_2)), zz3, H', ⟨zz1⟩, ⟨zz15⟩, ⟨zz31⟩⟩
  case rest =>
    clear HC8
    try clear c1
    try clear c2
    try clear c2b0
    try clear p2
    try clear c4
    try clear c5
    try clear c5b0
    try clear c5b1
    try clear c5b2
    try clear p6
    try clear c14
    try clear c14b0
    try clear c14b1
    try clear c15
    try clear c15b0
    try clear c15b1
    try clear hcz10_0
    try clear hcz10_1
    try clear hcz10_2
    try clear hcz12_0
    try clear hcz12_1
    try clear hcz12_2
    try clear hcz16_0
    try clear hcz16_1
    try clear hcz16_2
    try clear hcz18_0
    try clear hcz18_1
    try clear hcz18_2
    try clear hcz19_0
    try clear hcz19_1
    try clear hcz19_2
    try clear hcz4_0
    try clear hcz4_1
    try clear hcz4_2
    try clear hfz10_0
    try clear hfz10_1
    try clear hfz10_2
    try clear hfz12_0
    try clear hfz12_1
    try clear hfz12_2
    try clear hfz16_0
    try clear hfz16_1
    try clear hfz16_2
    try clear hfz18_0
    try clear hfz18_1
    try clear hfz18_2
    try clear hfz19_0
    try clear hfz19_1
    try clear hfz19_2
    try clear hfz4_0
    try clear hfz4_1
    try clear hfz4_2
    obtain ⟨kq, x2_7, rfl, HA, HJ7, BK149, HB⟩ := hcut
    cases kq with
    | zero => exact absurd HA.out (by simp [spec_l27Log.j0])
    | succ kj7 =>
      have H := HA.out
      clear HA
      simp only [spec_l27Log.j0] at H
      obtain rfl := Option.some.inj H
      go_wp2
      go_ret
      exact ⟨zz7, zz31⟩

end

section
attribute [local go_sem high] run_add_cat run_slice_cat run_slice_cat_h run_slice_cat_l run_slice_cat_all
/-! ### spec_IsValidLog: function 12 -/
def spec_IsValidLog.f (k : Nat) (a0_0 : ByteArray) (a0_1 : ByteArray) (a0_2 : Int) : Option (Bool) := (spec_l27Log.f k a0_0 a0_1 a0_2).bind fun t159 => (some t159)
set_option maxHeartbeats 8000000 in
set_option maxRecDepth 100000 in
theorem spec_IsValidLog.calls (k : Nat) (a0_0 : ByteArray) (a0_1 : ByteArray) (a0_2 : Int) (r : Bool) (w : World) (h : spec_IsValidLog.f k a0_0 a0_1 a0_2 = some r) :
    Calls Tryd.prog 12 #[.agg #[.string a0_0, .string a0_1, .int .i64 a0_2]] w fun e w' => e = .returned (.bool r) ∧ Below w.heap.size w w' := by
  have hu26 := Tryd.underlying26
  have HB := Aside0.mk (Below.refl w.heap.size w)
  have H : ((spec_l27Log.f k a0_0 a0_1 a0_2).bind fun t159 => (some t159)) = some r := h
  clear h
  replace H := Option.bind_eq_some_iff.mp H
  obtain ⟨t159, A20, H⟩ := H
  replace H : (some t159) = some r := H
  have A2 := Aside0.mk A20
  clear A20
  obtain rfl := Option.some.inj H
  go_enter Tryd.func12, Tryd.ntmps12
  go_wp2_with (first | ((with_reducible refine gate_dst (N := 1) rfl ?_); refine qbox (N := 1) (cs := #[.string a0_0, .string a0_1, .int .i64 a0_2]) (t := 26) ?_; intro gb158 hg w3 hbox hb; refine qs4 (below_step zz20 hb) (hbox) ((zz119 : w.heap.size ≤ gb158)) ((zz119 : w.heap.size ≤ gb158)) ?_; clear HB; intro HB BK158 GW158 GE158; clear hb hbox hg; obtain ⟨hcz4_0, hcz4_1, hcz4_2, hfz4_0, hfz4_1, hfz4_2⟩ := qc3 BK158.out) | ((with_reducible refine gate_callee (f := 40) rfl ?_); refine qcall 4 Tryd.func40 rfl #[.agg #[.string a0_0, .string a0_1, .int .i64 a0_2]] ?_; (with_reducible refine (spec_l27Log.calls k a0_0 a0_1 a0_2 t159 _ A2.out).mono ?_); rintro e w5 ⟨rfl, hb⟩; refine ⟨_, rfl, ?_⟩; refine qs2 (blk_below (qb BK158.out) hb) (below_step (by repeat (first | (with_reducible first | exact HB.out | apply below_alloc | apply pw_below_drewN | apply below_drew1 | refine below_set ?_ GE158.out) | exact HB.out)) hb) ?_; clear BK158 HB; intro BK158 HB; (try clear hb); (try clear hb2); (try clear hk); (try clear hi)))
  go_ret
  exact ⟨zz7, by repeat (first | (with_reducible first | exact HB.out | apply below_alloc | apply pw_below_drewN | apply below_drew1 | refine below_set ?_ GE158.out) | exact HB.out)⟩

end

section
attribute [local go_sem high] run_add_cat run_slice_cat run_slice_cat_h run_slice_cat_l run_slice_cat_all
/-! ### laws_toLog: function 13 -/
def laws_toLog.f (a0_0 : ByteArray) (a0_1 : ByteArray) (a0_2 : Int) : Option (ByteArray × ByteArray × Int) := some (a0_0, a0_1, a0_2)
end

section
attribute [local go_sem high] run_add_cat run_slice_cat run_slice_cat_h run_slice_cat_l run_slice_cat_all
/-! ### impl_in: function 43 -/
def impl_in.f (a0 : Int) (a1 : Int) (a2 : Int) : Option (Bool) := if a0 ≥ a1 then (some (decide (a0 ≤ a2))) else (some false)
set_option maxHeartbeats 8000000 in
set_option maxRecDepth 100000 in
theorem impl_in.calls (a0 : Int) (a1 : Int) (a2 : Int) (r : Bool) (w : World) (h : impl_in.f a0 a1 a2 = some r) :
    Calls Tryd.prog 43 #[.int .i64 a0, .int .i64 a1, .int .i64 a2] w fun e w' => e = .returned (.bool r) ∧ Drawn0 w w' := by
  have H : (if a0 ≥ a1 then (some (decide (a0 ≤ a2))) else (some false)) = some r := h
  clear h
  by_cases c4 : a0 ≥ a1
  · rw [if_pos c4] at H
    have c4b0 := decide_eq_true c4
    clear c4
    obtain rfl := Option.some.inj H
    go_enter Tryd.func43, Tryd.ntmps43
    go_wp2
    go_ret
    exact ⟨zz3, zz5⟩
  rw [if_neg c4] at H
  have c4b0 := decide_eq_false c4
  clear c4
  obtain rfl := Option.some.inj H
  go_enter Tryd.func43, Tryd.ntmps43
  go_wp2
  go_ret
  exact ⟨zz3, zz5⟩

end

/-! ### impl_isPlain: function 59 (by hand) -/
open Go.Shelf in
theorem areAllc {α : Type} (enc : α → Value) (p : α → Bool) (g B : Nat) (lb : Array Value) (w : World) (eg : ∀ args w, (callFunc g args).run Tryd.prog w = .ok (.enter g args) w)
    (hp : PredAt Tryd.prog g lb enc p w) (hB : B < w.heap.size) (hc : w.cell? ⟨B, 0, none⟩ = some (.func (.func g) #[] lb)) :
    PredAt Tryd.prog 81 #[.pointer (some ⟨B, 0, none⟩)] enc (fun x => !p x) w := fun W x hb => by
  have hc' : W.cell? ⟨B, 0, none⟩ = some (.func (.func g) #[] lb) := (hb.cell (p := ⟨B, 0, none⟩) hB).trans hc
  have hq := hp W x hb
  clear hp hb hc
  show Calls Tryd.prog 81 #[enc x, .pointer (some ⟨B, 0, none⟩)] W fun e w' => e = .returned (.bool (!p x)) ∧ ∃ q, w' = W.drewN q
  unfold FnGives at hq
  generalize enc x = v at hq ⊢
  generalize p x = r at hq ⊢
  go_enter Tryd.func81, Tryd.ntmps81
  go_wp2_with (go_at_fn g; refine hq.mono ?_; rintro e w' ⟨rfl, q, rfl⟩)
  go_ret
  exact ⟨rfl, _, rfl⟩

open Go.Shelf in
theorem areAll_any {α : Type} [Inhabited α] (enc : α → Value) (p : α → Bool) (g : Nat) (lb : Array Value) (b off n c : Nat) (zs : List α) (w : World) (eg : ∀ args w, (callFunc g args).run Tryd.prog w = .ok (.enter g args) w)
    (hp : PredAt Tryd.prog g lb enc p w) (hz : n ≤ zs.length) (hbig : n ≤ 9223372036854775807) (hc : ∀ j, j < zs.length → w.cell? ⟨b, off + j, none⟩ = some (enc zs[j]!)) :
    Calls Tryd.prog 72 #[.slice (some ⟨b, off, none⟩) n c, .func (.func g) #[] lb] w fun e w' => e = .returned (.bool ((zs.take n).all p)) ∧ Below w.heap.size w w' := by
  have e81 : ∀ args w, (callFunc 81 args).run Tryd.prog w = .ok (.enter 81 args) w := enters_of Tryd.func81 (by kernel_rfl) rfl
  have hp' : PredAt Tryd.prog g lb enc p (w.alloc (.cells #[.func (.func g) #[] lb] 97)) := fun W x hb => hp W x ((below_alloc (Below.refl _ _) _).trans (hb.mono (by simp)))
  have hcon := AnyE.slices_ContainsFunc Tryd.laysH80 enc (fun x => !p x) 81 #[.pointer (some ⟨w.heap.size, 0, none⟩)] e81 b off n c zs (w.alloc (.cells #[.func (.func g) #[] lb] 97))
    (areAllc enc p g w.heap.size lb _ eg hp' (by simp) (by simp)) hz hbig (fun j hj => Lib.cell?_alloc_some _ (hc j hj))
  change Calls Tryd.prog 80 _ _ _ at hcon
  have e : (zs.take n).all p = !(zs.take n).any fun x => !p x := by simp [List.all_eq_not_any_not]
  rw [e]
  clear hc hp hp' e
  generalize (zs.take n).any (fun x => !p x) = r at hcon ⊢
  go_enter Tryd.func72, Tryd.ntmps72
  go_wp2_with (go_at_call 80; refine hcon.mono ?_; rintro e w' ⟨rfl, q, rfl⟩)
  go_ret
  exact ⟨rfl, pw_below_drewN ((Below.refl _ w).alloc (Nat.le_refl _) _) q⟩
theorem areAll_nil (g : Nat) (lb : Array Value) (a : Option Addr) (c : Nat) (w : World) :
    Calls Tryd.prog 72 #[.slice a 0 c, .func (.func g) #[] lb] w fun e w' => e = .returned (.bool true) ∧ Below w.heap.size w w' := by
  have hcon := AnyE.slices_ContainsFunc_empty Tryd.laysH80 a c (.func (.func 81) #[] #[.pointer (some ⟨w.heap.size, 0, none⟩)]) (w.alloc (.cells #[.func (.func g) #[] lb] 97))
  change Calls Tryd.prog 80 _ _ _ at hcon
  go_enter Tryd.func72, Tryd.ntmps72
  go_wp2_with (go_at_call 80; refine hcon.mono ?_; rintro e w' ⟨rfl, rfl⟩)
  go_ret
  exact ⟨rfl, ((Below.refl _ w).alloc (Nat.le_refl _) _)⟩

def plainB (b : UInt8) : Bool := decide (32 ≤ b.toNat) && decide (b.toNat ≤ 126) && decide (b.toNat ≠ 35)
theorem plain_gives (w : World) : Go.Proofs.PredAt Tryd.prog 73 #[] (fun b : UInt8 => Value.int .u8 (b.toNat : Int)) plainB w := fun W x hb => by
  show Calls Tryd.prog 73 #[.int .u8 (x.toNat : Int)] W fun e w' => e = .returned (.bool (plainB x)) ∧ ∃ q, w' = W.drewN q
  clear hb
  unfold plainB
  generalize x.toNat = n
  by_cases h1 : 32 ≤ n
  rotate_left
  · go_enter Tryd.func73, Tryd.ntmps73
    go_wp2
    go_ret
    exact ⟨by first | (simp [h1]; done) | (simp [h1]; omega), 0, rfl⟩
  by_cases h2 : n ≤ 126
  rotate_left
  · go_enter Tryd.func73, Tryd.ntmps73
    go_wp2
    go_ret
    exact ⟨by first | (simp [h1, h2]; done) | (simp [h1, h2]; omega), 0, rfl⟩
  by_cases h3 : n = 35
  · subst h3
    go_enter Tryd.func73, Tryd.ntmps73
    go_wp2
    go_ret
    exact ⟨rfl, 0, rfl⟩
  have h4 : ¬ (n : Int) = 35 := by omega
  go_enter Tryd.func73, Tryd.ntmps73
  go_wp2
  go_ret
  exact ⟨by simp [h1, h2, h3, h4], 0, rfl⟩
def impl_isPlain.f (a0 : ByteArray) : Option Bool := if a0.size ≤ 9223372036854775807 then some (a0.data.toList.all plainB) else none
theorem impl_isPlain.calls (a0 : ByteArray) (r : Bool) (w : World) (h : impl_isPlain.f a0 = some r) :
    Calls Tryd.prog 59 #[.string a0] w fun e w' => e = .returned (.bool r) ∧ Below w.heap.size w w' := by
  unfold impl_isPlain.f at h
  split at h
  · rename_i hs
    obtain rfl := Option.some.inj h
    have e73 : ∀ args w, (callFunc 73 args).run Tryd.prog w = .ok (.enter 73 args) w := enters_of Tryd.func73 (by kernel_rfl) rfl
    have hcv := Lib.run_convert_string_bytes (P := Tryd.prog) w 9 48 5 a0 Tryd.underlying9 Tryd.underlying48 Tryd.underlying5
    have hcon : Calls Tryd.prog 72 #[.slice (some ⟨w.heap.size, 0, none⟩) a0.size (grownCap w a0.size 0 5), .func (.func 73) #[] #[]] (Lib.bytesWorld w 5 a0) fun e w' => e = .returned (.bool (a0.data.toList.all plainB)) ∧ Below (Lib.bytesWorld w 5 a0).heap.size (Lib.bytesWorld w 5 a0) w' := by
      by_cases h0 : a0.size = 0
      · have : a0.data.toList = [] := List.eq_nil_of_length_eq_zero h0
        rw [this, h0]
        exact areAll_nil 73 #[] _ _ _
      have hl : a0.data.toList.length = a0.size := rfl
      have := areAll_any (fun b : UInt8 => Value.int .u8 (b.toNat : Int)) plainB 73 #[] w.heap.size 0 a0.size (grownCap w a0.size 0 5) a0.data.toList (Lib.bytesWorld w 5 a0) e73 (plain_gives _) (by omega) hs (fun j hj => by
        rw [show (0 + j) = j by omega, Lib.bytesWorld_cell w 5 a0 j hj]
        simp [List.getD_eq_getElem?_getD, List.getElem!_eq_getElem?_getD]
        rfl)
      rw [List.take_of_length_le (by omega)] at this
      exact this
    have HB := below_bytesWorld w 5 a0
    generalize Lib.bytesWorld w 5 a0 = W1 at hcv hcon HB
    generalize grownCap w a0.size 0 5 = c at hcv hcon
    generalize a0.data.toList.all plainB = r at hcon ⊢
    have HB' := Lib.hid HB
    clear HB
    go_enter Tryd.func59, Tryd.ntmps59
    go_wp2_with (go_at_call 72; refine hcon.mono ?_; rintro e w' ⟨rfl, hb⟩)
    go_ret
    exact ⟨rfl, HB'.out.trans (hb.mono HB'.out.size)⟩
  · cases h


/-! ### strings_Contains: function 60 (by hand) -/
def strings_Contains.f (a0 a1 : ByteArray) : Option Bool := if a0.size < 4294967281 then some (Lib.contains a0.data.toList a1.data.toList) else none
theorem strings_Contains.calls (a0 a1 : ByteArray) (r : Bool) (w : World) (hG : Gl w) (h : strings_Contains.f a0 a1 = some r) :
    Calls Tryd.prog 60 #[.string a0, .string a1] w fun e w' => e = .returned (.bool r) ∧ Below w.heap.size w w' := by
  unfold strings_Contains.f at h
  split at h
  · rename_i hb
    obtain rfl := Option.some.inj h
    obtain ⟨m, hm⟩ := hG.1
    refine (Tryd.strings_Contains a0 a1 m w hb hm).mono ?_
    rintro e w' ⟨he, rfl⟩
    exact ⟨he, Below.refl _ _⟩
  · cases h


section
attribute [local go_sem high] run_add_cat run_slice_cat run_slice_cat_h run_slice_cat_l run_slice_cat_all
/-! ### impl_IsValidRecord: function 37 -/
def impl_IsValidRecord.f (a0_0 : ByteArray) (a0_1 : ByteArray) : Option (Bool) := (impl_in.f (a0_0.size : Int) 1 160).bind fun t164 => (if t164 = true then ((impl_isPlain.f a0_0).bind fun t165 => (if t165 = true then ((strings_Contains.f a0_0 (⟨#[64]⟩ : ByteArray)).bind fun t166 => (if t166 = true then (some false) else (if (a0_1.size : Int) ≤ 200 then ((impl_isPlain.f a0_1).bind fun t167 => (some t167)) else (some false)))) else (some false))) else (some false))
set_option maxHeartbeats 8000000 in
set_option maxRecDepth 100000 in
theorem impl_IsValidRecord.calls (a0_0 : ByteArray) (a0_1 : ByteArray) (r : Bool) (w : World) (hG : Gl w) (h : impl_IsValidRecord.f a0_0 a0_1 = some r) :
    Calls Tryd.prog 37 #[.agg #[.string a0_0, .string a0_1]] w fun e w' => e = .returned (.bool r) ∧ Below w.heap.size w w' := by
  have hu40 := Tryd.underlying40
  have HG := Aside0.mk hG
  clear hG
  have HB := Aside0.mk (Below.refl w.heap.size w)
  unfold impl_IsValidRecord.f at h
  have H := h
  clear h
  replace H := Option.bind_eq_some_iff.mp H
  obtain ⟨t164, A20, H⟩ := H
  (try dsimp only at H)
  have A2 := Aside0.mk A20
  clear A20
  by_cases c3 : t164 = true
  rotate_left
  · replace c3 := Bool.eq_false_iff.mpr c3
    subst c3
    rw [if_neg (show ¬ (false = true) by decide)] at H
    obtain rfl := Option.some.inj H
    go_enter Tryd.func37, Tryd.ntmps37
    go_wp2_with (first | ((with_reducible refine gate_dst (N := 1) rfl ?_); (try (refine gate_guard (by rfl) ?_; dsimp only)); refine qbox (N := 1) (cs := #[.string a0_0, .string a0_1]) (t := 40) ?_; intro gb163 hg w31 hbox hb; refine qs4 (below_step zz20 hb) (hbox) ((zz119 : w.heap.size ≤ gb163)) ((zz119 : w.heap.size ≤ gb163)) ?_; clear HB; intro HB BK163 GW163 GE163; clear hb hbox hg; obtain ⟨hcz32_0, hcz32_1, hfz32_0, hfz32_1⟩ := qc2 BK163.out) | ((with_reducible refine gate_callee (f := 43) rfl ?_); refine qcall 7 Tryd.func43 rfl #[.int .i64 (a0_0.size : Int), .int .i64 1, .int .i64 160] ?_; (with_reducible refine (impl_in.calls (a0_0.size : Int) 1 160 false _ A2.out).mono ?_); rintro e w' ⟨rfl, ⟨nd, rfl⟩⟩; refine ⟨_, rfl, ?_⟩))
    go_ret
    exact ⟨zz7, zz27⟩
  subst c3
  rw [if_pos rfl] at H
  replace H := Option.bind_eq_some_iff.mp H
  obtain ⟨t165, A40, H⟩ := H
  (try dsimp only at H)
  have A4 := Aside0.mk A40
  clear A40
  by_cases c5 : t165 = true
  rotate_left
  · replace c5 := Bool.eq_false_iff.mpr c5
    subst c5
    rw [if_neg (show ¬ (false = true) by decide)] at H
    obtain rfl := Option.some.inj H
    go_enter Tryd.func37, Tryd.ntmps37
    go_wp2_with (first | ((with_reducible refine gate_dst (N := 1) rfl ?_); (try (refine gate_guard (by rfl) ?_; dsimp only)); refine qbox (N := 1) (cs := #[.string a0_0, .string a0_1]) (t := 40) ?_; intro gb163 hg w28 hbox hb; refine qs4 (below_step zz20 hb) (hbox) ((zz119 : w.heap.size ≤ gb163)) ((zz119 : w.heap.size ≤ gb163)) ?_; clear HB; intro HB BK163 GW163 GE163; clear hb hbox hg; obtain ⟨hcz29_0, hcz29_1, hfz29_0, hfz29_1⟩ := qc2 BK163.out) | ((with_reducible refine gate_callee (f := 43) rfl ?_); refine qcall 7 Tryd.func43 rfl #[.int .i64 (a0_0.size : Int), .int .i64 1, .int .i64 160] ?_; (with_reducible refine (impl_in.calls (a0_0.size : Int) 1 160 true _ A2.out).mono ?_); rintro e w' ⟨rfl, ⟨nd, rfl⟩⟩; refine ⟨_, rfl, ?_⟩) | (go_at_call 59; (with_reducible refine (impl_isPlain.calls a0_0 false _ A4.out).mono ?_); rintro e w30 ⟨rfl, hb⟩; refine qs2 (blk_below (qb BK163.out) hb) (below_step zz27 hb) ?_; clear BK163 HB; intro BK163 HB; (try clear hb); (try clear hb2); (try clear hk); (try clear hi)))
    go_ret
    exact ⟨zz7, zz27⟩
  subst c5
  rw [if_pos rfl] at H
  replace H := Option.bind_eq_some_iff.mp H
  obtain ⟨t166, A60, H⟩ := H
  (try dsimp only at H)
  have A6 := Aside0.mk A60
  clear A60
  by_cases c7 : t166 = true
  · subst c7
    rw [if_pos rfl] at H
    obtain rfl := Option.some.inj H
    go_enter Tryd.func37, Tryd.ntmps37
    go_wp2_with (first | ((with_reducible refine gate_dst (N := 1) rfl ?_); (try (refine gate_guard (by rfl) ?_; dsimp only)); refine qbox (N := 1) (cs := #[.string a0_0, .string a0_1]) (t := 40) ?_; intro gb163 hg w8 hbox hb; refine qs4 (below_step zz20 hb) (hbox) ((zz119 : w.heap.size ≤ gb163)) ((zz119 : w.heap.size ≤ gb163)) ?_; clear HB; intro HB BK163 GW163 GE163; clear hb hbox hg; obtain ⟨hcz9_0, hcz9_1, hfz9_0, hfz9_1⟩ := qc2 BK163.out) | ((with_reducible refine gate_callee (f := 43) rfl ?_); refine qcall 7 Tryd.func43 rfl #[.int .i64 (a0_0.size : Int), .int .i64 1, .int .i64 160] ?_; (with_reducible refine (impl_in.calls (a0_0.size : Int) 1 160 true _ A2.out).mono ?_); rintro e w' ⟨rfl, ⟨nd, rfl⟩⟩; refine ⟨_, rfl, ?_⟩) | (go_at_call 59; (with_reducible refine (impl_isPlain.calls a0_0 true _ A4.out).mono ?_); rintro e w10 ⟨rfl, hb⟩; refine qs2 (blk_below (qb BK163.out) hb) (below_step zz27 hb) ?_; clear BK163 HB; intro BK163 HB; (try clear hb); (try clear hb2); (try clear hk); (try clear hi); obtain ⟨hcz11_0, hcz11_1, hfz11_0, hfz11_1⟩ := qc2 BK163.out) | (go_at_call 60; (with_reducible refine (strings_Contains.calls a0_0 (⟨#[64]⟩ : ByteArray) true _ ?side1 A6.out).mono ?_); (case side1 => exact Gl.below HG.out zz27); rintro e w12 ⟨rfl, hb⟩; refine qs2 (blk_below (qb BK163.out) hb) (below_step zz27 hb) ?_; clear BK163 HB; intro BK163 HB; (try clear hb); (try clear hb2); (try clear hk); (try clear hi)))
    go_ret
    exact ⟨zz7, zz27⟩
  replace c7 := Bool.eq_false_iff.mpr c7
  subst c7
  rw [if_neg (show ¬ (false = true) by decide)] at H
  by_cases c13 : (a0_1.size : Int) ≤ 200
  rotate_left
  · rw [if_neg c13] at H
    have c13b0 := decide_eq_false c13
    have c13b1 : decide (a0_1.size ≤ 200) = false := decide_eq_false (by omega)
    clear c13
    obtain rfl := Option.some.inj H
    go_enter Tryd.func37, Tryd.ntmps37
    go_wp2_with (first | ((with_reducible refine gate_dst (N := 1) rfl ?_); (try (refine gate_guard (by rfl) ?_; dsimp only)); refine qbox (N := 1) (cs := #[.string a0_0, .string a0_1]) (t := 40) ?_; intro gb163 hg w22 hbox hb; refine qs4 (below_step zz20 hb) (hbox) ((zz119 : w.heap.size ≤ gb163)) ((zz119 : w.heap.size ≤ gb163)) ?_; clear HB; intro HB BK163 GW163 GE163; clear hb hbox hg; obtain ⟨hcz23_0, hcz23_1, hfz23_0, hfz23_1⟩ := qc2 BK163.out) | ((with_reducible refine gate_callee (f := 43) rfl ?_); refine qcall 7 Tryd.func43 rfl #[.int .i64 (a0_0.size : Int), .int .i64 1, .int .i64 160] ?_; (with_reducible refine (impl_in.calls (a0_0.size : Int) 1 160 true _ A2.out).mono ?_); rintro e w' ⟨rfl, ⟨nd, rfl⟩⟩; refine ⟨_, rfl, ?_⟩) | (go_at_call 59; (with_reducible refine (impl_isPlain.calls a0_0 true _ A4.out).mono ?_); rintro e w24 ⟨rfl, hb⟩; refine qs2 (blk_below (qb BK163.out) hb) (below_step zz27 hb) ?_; clear BK163 HB; intro BK163 HB; (try clear hb); (try clear hb2); (try clear hk); (try clear hi); obtain ⟨hcz25_0, hcz25_1, hfz25_0, hfz25_1⟩ := qc2 BK163.out) | (go_at_call 60; (with_reducible refine (strings_Contains.calls a0_0 (⟨#[64]⟩ : ByteArray) false _ ?side1 A6.out).mono ?_); (case side1 => exact Gl.below HG.out zz27); rintro e w26 ⟨rfl, hb⟩; refine qs2 (blk_below (qb BK163.out) hb) (below_step zz27 hb) ?_; clear BK163 HB; intro BK163 HB; (try clear hb); (try clear hb2); (try clear hk); (try clear hi); obtain ⟨hcz27_0, hcz27_1, hfz27_0, hfz27_1⟩ := qc2 BK163.out))
    go_ret
    exact ⟨zz7, zz27⟩
  rw [if_pos c13] at H
  have c13b0 := decide_eq_true c13
  have c13b1 : decide (a0_1.size ≤ 200) = true := decide_eq_true (by omega)
  clear c13
  replace H := Option.bind_eq_some_iff.mp H
  obtain ⟨t167, A140, H⟩ := H
  replace H : (some t167) = some r := H
  have A14 := Aside0.mk A140
  clear A140
  obtain rfl := Option.some.inj H
  go_enter Tryd.func37, Tryd.ntmps37
  go_wp2_with (first | ((with_reducible refine gate_dst (N := 1) rfl ?_); (try (refine gate_guard (by rfl) ?_; dsimp only)); refine qbox (N := 1) (cs := #[.string a0_0, .string a0_1]) (t := 40) ?_; intro gb163 hg w15 hbox hb; refine qs4 (below_step zz20 hb) (hbox) ((zz119 : w.heap.size ≤ gb163)) ((zz119 : w.heap.size ≤ gb163)) ?_; clear HB; intro HB BK163 GW163 GE163; clear hb hbox hg; obtain ⟨hcz16_0, hcz16_1, hfz16_0, hfz16_1⟩ := qc2 BK163.out) | ((with_reducible refine gate_callee (f := 43) rfl ?_); refine qcall 7 Tryd.func43 rfl #[.int .i64 (a0_0.size : Int), .int .i64 1, .int .i64 160] ?_; (with_reducible refine (impl_in.calls (a0_0.size : Int) 1 160 true _ A2.out).mono ?_); rintro e w' ⟨rfl, ⟨nd, rfl⟩⟩; refine ⟨_, rfl, ?_⟩) | (go_at_call 59; (with_reducible refine (impl_isPlain.calls a0_0 true _ A4.out).mono ?_); rintro e w17 ⟨rfl, hb⟩; refine qs2 (blk_below (qb BK163.out) hb) (below_step zz27 hb) ?_; clear BK163 HB; intro BK163 HB; (try clear hb); (try clear hb2); (try clear hk); (try clear hi); obtain ⟨hcz18_0, hcz18_1, hfz18_0, hfz18_1⟩ := qc2 BK163.out) | (go_at_call 60; (with_reducible refine (strings_Contains.calls a0_0 (⟨#[64]⟩ : ByteArray) false _ ?side1 A6.out).mono ?_); (case side1 => exact Gl.below HG.out zz27); rintro e w19 ⟨rfl, hb⟩; refine qs2 (blk_below (qb BK163.out) hb) (below_step zz27 hb) ?_; clear BK163 HB; intro BK163 HB; (try clear hb); (try clear hb2); (try clear hk); (try clear hi); obtain ⟨hcz20_0, hcz20_1, hfz20_0, hfz20_1⟩ := qc2 BK163.out) | (go_at_call 59; (with_reducible refine (impl_isPlain.calls a0_1 t167 _ A14.out).mono ?_); rintro e w21 ⟨rfl, hb⟩; refine qs2 (blk_below (qb BK163.out) hb) (below_step zz27 hb) ?_; clear BK163 HB; intro BK163 HB; (try clear hb); (try clear hb2); (try clear hk); (try clear hi)))
  go_ret
  exact ⟨zz7, zz27⟩

end

/-! ### strconv_Itoa: function 69 (by hand) -/
def strconv_Itoa.f (a0 : Int) : Option ByteArray := if -9223372036854775808 ≤ a0 ∧ a0 ≤ 9223372036854775807 then some ⟨(Lib.itoa a0).toArray⟩ else none
theorem strconv_Itoa.calls (a0 : Int) (r : ByteArray) (w : World) (hG : Gl w) (h : strconv_Itoa.f a0 = some r) :
    Calls Tryd.prog 69 #[.int .i64 a0] w fun e w' => e = .returned (.string r) ∧ Below w.heap.size w w' := by
  unfold strconv_Itoa.f at h
  split at h
  · rename_i hb
    obtain rfl := Option.some.inj h
    refine (Tryd.strconv_Itoa a0 hb.1 hb.2 w hG.2).mono ?_
    rintro e w' ⟨he, k, os, rfl⟩
    exact ⟨he, Lib.below_grow _ _ (Nat.le_refl _) _ _⟩
  · cases h


section
attribute [local go_sem high] run_add_cat run_slice_cat run_slice_cat_h run_slice_cat_l run_slice_cat_all
/-! ### impl_decimal: function 52 -/
def impl_decimal.f (a0 : Int) : Option (ByteArray) := (strconv_Itoa.f a0).bind fun t168 => (some t168)
set_option maxHeartbeats 8000000 in
set_option maxRecDepth 100000 in
theorem impl_decimal.calls (a0 : Int) (r : ByteArray) (w : World) (hG : Gl w) (h : impl_decimal.f a0 = some r) :
    Calls Tryd.prog 52 #[.int .i64 a0] w fun e w' => e = .returned (.string r) ∧ Below w.heap.size w w' := by
  have HG := Aside0.mk hG
  clear hG
  have HB := Aside0.mk (Below.refl w.heap.size w)
  have H : ((strconv_Itoa.f a0).bind fun t168 => (some t168)) = some r := h
  clear h
  replace H := Option.bind_eq_some_iff.mp H
  obtain ⟨t168, A20, H⟩ := H
  replace H : (some t168) = some r := H
  have A2 := Aside0.mk A20
  clear A20
  obtain rfl := Option.some.inj H
  go_enter Tryd.func52, Tryd.ntmps52
  go_wp2_with (first | ((with_reducible refine gate_callee (f := 69) rfl ?_); refine qcall 4 Tryd.func69 rfl #[.int .i64 a0] ?_; (with_reducible refine (strconv_Itoa.calls a0 t168 _ ?side1 A2.out).mono ?_); (case side1 => exact zz118); rintro e w3 ⟨rfl, hb⟩; refine ⟨_, rfl, ?_⟩; refine qs1 (below_step zz20 hb) ?_; clear HB; intro HB; (try clear hb); (try clear hb2); (try clear hk); (try clear hi)))
  go_ret
  exact ⟨zz7, zz20⟩

end

end Go.Proofs.YtokmidpeeejahaaDoor.G

-- Written by a program of this session (wip/pd.py), which calls the kit's print; externals' contracts by hand.
namespace Go.Proofs.YtokmidpeeejahaaDoor.G
open Go.Proofs.YtokmidpeeejahaaDoorQ
open Go.RowKit Go.Proofs.YtokmidpeeejahaaDoorW.PrintWords Go.Proofs.YtokmidpeeejahaaDoorW.PrintLast Go.Proofs.YtokmidpeeejahaaDoorW.PrintMore
attribute [local go_sem] max2_int min2_int max_two min_two max_three min_three max_four min_four   -- for this text's walks alone
set_option linter.unusedVariables false
set_option linter.unusedSimpArgs false

section
attribute [local go_sem high] run_add_cat run_slice_cat run_slice_cat_h run_slice_cat_l run_slice_cat_all
/-! ### impl_Checksum: function 68 -/
def impl_Checksum.l0 : Nat → ByteArray → Int → Int → Int → Option (Int × Bool)
  | 0, _, _, _, _ => none
  | k + 1, x0, x4, x10, x11 => if x11 < x10 then (if 0 ≤ x11 then (if x11 < (x0.size : Int) then (impl_Checksum.l0 k x0 (Int.tmod (wrap64 ((wrap64 ((wrap64 (41 * x4)) + (wrap64 (bt x0 x11)))) + 1)) 999979) x10 (wrap64 (x11 + 1))) else (none)) else (none)) else (some (x4, true))
def impl_Checksum.f (k : Nat) (a0 : ByteArray) : Option (Int × Bool) := if (a0.size : Int) > 4000 then (some (0, false)) else (impl_Checksum.l0 k a0 7 (a0.size : Int) 0)
set_option maxHeartbeats 8000000 in
set_option maxRecDepth 100000 in
theorem impl_Checksum.calls (k : Nat) (a0 : ByteArray) (r1 : Int) (r2 : Bool) (w : World) (h : impl_Checksum.f k a0 = some (r1, r2)) :
    Calls Tryd.prog 68 #[.string a0] w fun e w' => e = .returned (.tuple #[.int .i64 r1, .bool r2]) ∧ Drawn0 w w' := by
  unfold impl_Checksum.f at h
  have H := h
  clear h
  by_cases c2 : (a0.size : Int) > 4000
  · rw [if_pos c2] at H
    have c2b0 := decide_eq_true c2
    have c2b1 : decide (4000 < a0.size) = true := decide_eq_true (by omega)
    clear c2
    simp only [Option.some.injEq, Prod.mk.injEq] at H
    obtain ⟨rfl, rfl⟩ := H
    go_enter Tryd.func68, Tryd.ntmps68
    go_wp2
    go_ret2
    exact ⟨zz3, zz5⟩
  rw [if_neg c2] at H
  have c2b0 := decide_eq_false c2
  have c2b1 : decide (4000 < a0.size) = false := decide_eq_false (by omega)
  clear c2
  have H' := Aside0.mk H
  clear H
  go_enter Tryd.func68, Tryd.ntmps68
  go_wp2
  go_loopg [4, 11] k (fun kq v4 v11 w' => ∃ (x4_1 : Int) (x11_1 : Int), v4 = .int .i64 x4_1 ∧ v11 = .int .i64 x11_1 ∧ Aside0 (impl_Checksum.l0 kq a0 x4_1 (a0.size : Int) x11_1 = some (r1, r2)) ∧ Aside0 (kq ≤ k) ∧ Drawn0 w w')
  case atStart => exact ⟨(7), (0), zz3, zz3, H', ⟨Nat.le_refl _⟩, zz5⟩
  case round =>
    clear H'
    try clear c2
    try clear c2b0
    try clear c2b1
    try clear p2
    obtain ⟨x4_1, x11_1, rfl, rfl, HA, HK1, ⟨m1, rfl⟩⟩ := hrel
    cases gk with
    | zero => exact absurd HA.out (by simp [impl_Checksum.l0])
    | succ k1 =>
      have H := HA.out
      clear HA
      simp only [impl_Checksum.l0] at H
      by_cases c3 : x11_1 < (a0.size : Int)
      rotate_left
      · rw [if_neg c3] at H
        have c3b0 := decide_eq_false c3
        clear c3
        simp only [Option.some.injEq, Prod.mk.injEq] at H
        obtain ⟨rfl, rfl⟩ := H
        go_wp2
        go_ret2
        exact ⟨zz3, zz5⟩
      rw [if_pos c3] at H
      have c3b0 := decide_eq_true c3
      clear c3
      by_cases c4 : 0 ≤ x11_1
      rotate_left
      · rw [if_neg c4] at H
        exact absurd H (by simp)
      rw [if_pos c4] at H
      have c4b0 := decide_eq_true c4
      clear c4
      by_cases c5 : x11_1 < (a0.size : Int)
      rotate_left
      · rw [if_neg c5] at H
        exact absurd H (by simp)
      rw [if_pos c5] at H
      have c5b0 := decide_eq_true c5
      clear c5
      have H' := Aside0.mk H
      clear H
      have p6 : 0 ≤ (x11_1 : Int) := of_decide_eq_true zz4
      have q6 : x11_1 < (a0.size : Int) := of_decide_eq_true zz4
      have hx6 := bt_at a0 x11_1
      replace p6 := eq_true p6
      replace q6 := eq_true q6
      go_wp2
      go_roundg k1
      case measure => have := HK1.out; omega
      case rel => exact ⟨(Int.tmod (wrap64 ((wrap64 ((wrap64 (41 * x4_1)) + (wrap64 (bt a0 x11_1)))) + 1)) 999979), (wrap64 (x11_1 + 1)), zz3, zz3, H', ⟨zz0⟩, zz5⟩

end

section
attribute [local go_sem high] run_add_cat run_slice_cat run_slice_cat_h run_slice_cat_l run_slice_cat_all
/-! ### impl_AppendChecksum: function 51 -/
def impl_AppendChecksum.f (k : Nat) (a0 : ByteArray) : Option (ByteArray × Bool) := (impl_Checksum.f k a0).bind fun bt169 => (if a0.size + 1 ≤ 9223372036854775807 then ((impl_decimal.f bt169.1).bind fun t171 => (if (cat a0 (⟨#[35]⟩ : ByteArray)).size + t171.size ≤ 9223372036854775807 then (if bt169.2 = true then ((strings_Contains.f a0 (⟨#[35]⟩ : ByteArray)).bind fun t172 => (if t172 = true then (some ((⟨#[]⟩ : ByteArray), false)) else (if ((cat (cat a0 (⟨#[35]⟩ : ByteArray)) t171).size : Int) > 4000 then (some ((⟨#[]⟩ : ByteArray), false)) else (some (cat (cat a0 (⟨#[35]⟩ : ByteArray)) t171, true))))) else (some ((⟨#[]⟩ : ByteArray), false))) else (none))) else (none))
set_option maxHeartbeats 8000000 in
set_option maxRecDepth 100000 in
theorem impl_AppendChecksum.calls (k : Nat) (a0 : ByteArray) (r1 : ByteArray) (r2 : Bool) (w : World) (hG : Gl w) (h : impl_AppendChecksum.f k a0 = some (r1, r2)) :
    Calls Tryd.prog 51 #[.string a0] w fun e w' => e = .returned (.tuple #[.string r1, .bool r2]) ∧ Below w.heap.size w w' := by
  have HG := Aside0.mk hG
  clear hG
  have HB := Aside0.mk (Below.refl w.heap.size w)
  unfold impl_AppendChecksum.f at h
  have H := h
  clear h
  replace H := Option.bind_eq_some_iff.mp H
  obtain ⟨⟨t169, t170⟩, A20, H⟩ := H
  (try dsimp only at H)
  have A2 := Aside0.mk A20
  clear A20
  by_cases c3 : a0.size + 1 ≤ 9223372036854775807
  rotate_left
  · rw [if_neg c3] at H
    exact absurd H (by simp)
  rw [if_pos c3] at H
  have c3b0 := eq_true c3
  have c3b1 := decide_eq_true c3
  try have c3b2 := eq_false (Nat.not_lt.2 c3)
  clear c3
  replace H := Option.bind_eq_some_iff.mp H
  obtain ⟨t171, A40, H⟩ := H
  (try dsimp only at H)
  have A4 := Aside0.mk A40
  clear A40
  by_cases c5 : (cat a0 (⟨#[35]⟩ : ByteArray)).size + t171.size ≤ 9223372036854775807
  rotate_left
  · rw [if_neg c5] at H
    exact absurd H (by simp)
  rw [if_pos c5] at H
  have c5b0 := eq_true c5
  have c5b1 := decide_eq_true c5
  try have c5b2 := eq_false (Nat.not_lt.2 c5)
  clear c5
  by_cases c6 : t170 = true
  rotate_left
  · replace c6 := Bool.eq_false_iff.mpr c6
    subst c6
    rw [if_neg (show ¬ (false = true) by decide)] at H
    simp only [Option.some.injEq, Prod.mk.injEq] at H
    obtain ⟨rfl, rfl⟩ := H
    go_enter Tryd.func51, Tryd.ntmps51
    go_wp2_with (first | ((with_reducible refine gate_callee (f := 68) rfl ?_); refine qcall 9 Tryd.func68 rfl #[.string a0] ?_; (with_reducible refine (impl_Checksum.calls k a0 t169 false _ A2.out).mono ?_); rintro e w' ⟨rfl, ⟨nd, rfl⟩⟩; refine ⟨_, rfl, ?_⟩) | ((with_reducible refine gate_callee (f := 52) rfl ?_); refine qcall 15 Tryd.func52 rfl #[.int .i64 t169] ?_; (with_reducible refine (impl_decimal.calls t169 t171 _ ?side1 A4.out).mono ?_); (case side1 => exact zz118); rintro e w16 ⟨rfl, hb⟩; refine ⟨_, rfl, ?_⟩; refine qs1 (below_step zz20 hb) ?_; clear HB; intro HB; (try clear hb); (try clear hb2); (try clear hk); (try clear hi)))
    go_ret2
    exact ⟨zz7, zz20⟩
  subst c6
  rw [if_pos rfl] at H
  replace H := Option.bind_eq_some_iff.mp H
  obtain ⟨t172, A70, H⟩ := H
  (try dsimp only at H)
  have A7 := Aside0.mk A70
  clear A70
  by_cases c8 : t172 = true
  · subst c8
    rw [if_pos rfl] at H
    simp only [Option.some.injEq, Prod.mk.injEq] at H
    obtain ⟨rfl, rfl⟩ := H
    go_enter Tryd.func51, Tryd.ntmps51
    go_wp2_with (first | ((with_reducible refine gate_callee (f := 68) rfl ?_); refine qcall 9 Tryd.func68 rfl #[.string a0] ?_; (with_reducible refine (impl_Checksum.calls k a0 t169 true _ A2.out).mono ?_); rintro e w' ⟨rfl, ⟨nd, rfl⟩⟩; refine ⟨_, rfl, ?_⟩) | ((with_reducible refine gate_callee (f := 52) rfl ?_); refine qcall 15 Tryd.func52 rfl #[.int .i64 t169] ?_; (with_reducible refine (impl_decimal.calls t169 t171 _ ?side1 A4.out).mono ?_); (case side1 => exact zz118); rintro e w9 ⟨rfl, hb⟩; refine ⟨_, rfl, ?_⟩; refine qs1 (below_step zz20 hb) ?_; clear HB; intro HB; (try clear hb); (try clear hb2); (try clear hk); (try clear hi)) | (go_at_call 60; (with_reducible refine (strings_Contains.calls a0 (⟨#[35]⟩ : ByteArray) true _ ?side1 A7.out).mono ?_); (case side1 => exact zz118); rintro e w10 ⟨rfl, hb⟩; refine qs1 (below_step zz20 hb) ?_; clear HB; intro HB; (try clear hb); (try clear hb2); (try clear hk); (try clear hi)))
    go_ret2
    exact ⟨zz7, zz20⟩
  replace c8 := Bool.eq_false_iff.mpr c8
  subst c8
  rw [if_neg (show ¬ (false = true) by decide)] at H
  by_cases c11 : ((cat (cat a0 (⟨#[35]⟩ : ByteArray)) t171).size : Int) > 4000
  · rw [if_pos c11] at H
    have c11b0 := decide_eq_true c11
    have c11b1 : decide (4000 < (cat (cat a0 (⟨#[35]⟩ : ByteArray)) t171).size) = true := decide_eq_true (by omega)
    clear c11
    simp only [Option.some.injEq, Prod.mk.injEq] at H
    obtain ⟨rfl, rfl⟩ := H
    go_enter Tryd.func51, Tryd.ntmps51
    go_wp2_with (first | ((with_reducible refine gate_callee (f := 68) rfl ?_); refine qcall 9 Tryd.func68 rfl #[.string a0] ?_; (with_reducible refine (impl_Checksum.calls k a0 t169 true _ A2.out).mono ?_); rintro e w' ⟨rfl, ⟨nd, rfl⟩⟩; refine ⟨_, rfl, ?_⟩) | ((with_reducible refine gate_callee (f := 52) rfl ?_); refine qcall 15 Tryd.func52 rfl #[.int .i64 t169] ?_; (with_reducible refine (impl_decimal.calls t169 t171 _ ?side1 A4.out).mono ?_); (case side1 => exact zz118); rintro e w12 ⟨rfl, hb⟩; refine ⟨_, rfl, ?_⟩; refine qs1 (below_step zz20 hb) ?_; clear HB; intro HB; (try clear hb); (try clear hb2); (try clear hk); (try clear hi)) | (go_at_call 60; (with_reducible refine (strings_Contains.calls a0 (⟨#[35]⟩ : ByteArray) false _ ?side1 A7.out).mono ?_); (case side1 => exact zz118); rintro e w13 ⟨rfl, hb⟩; refine qs1 (below_step zz20 hb) ?_; clear HB; intro HB; (try clear hb); (try clear hb2); (try clear hk); (try clear hi)))
    go_ret2
    exact ⟨zz7, zz20⟩
  rw [if_neg c11] at H
  have c11b0 := decide_eq_false c11
  have c11b1 : decide (4000 < (cat (cat a0 (⟨#[35]⟩ : ByteArray)) t171).size) = false := decide_eq_false (by omega)
  clear c11
  simp only [Option.some.injEq, Prod.mk.injEq] at H
  obtain ⟨rfl, rfl⟩ := H
  go_enter Tryd.func51, Tryd.ntmps51
  go_wp2_with (first | ((with_reducible refine gate_callee (f := 68) rfl ?_); refine qcall 9 Tryd.func68 rfl #[.string a0] ?_; (with_reducible refine (impl_Checksum.calls k a0 t169 true _ A2.out).mono ?_); rintro e w' ⟨rfl, ⟨nd, rfl⟩⟩; refine ⟨_, rfl, ?_⟩) | ((with_reducible refine gate_callee (f := 52) rfl ?_); refine qcall 15 Tryd.func52 rfl #[.int .i64 t169] ?_; (with_reducible refine (impl_decimal.calls t169 t171 _ ?side1 A4.out).mono ?_); (case side1 => exact zz118); rintro e w14 ⟨rfl, hb⟩; refine ⟨_, rfl, ?_⟩; refine qs1 (below_step zz20 hb) ?_; clear HB; intro HB; (try clear hb); (try clear hb2); (try clear hk); (try clear hi)) | (go_at_call 60; (with_reducible refine (strings_Contains.calls a0 (⟨#[35]⟩ : ByteArray) false _ ?side1 A7.out).mono ?_); (case side1 => exact zz118); rintro e w15 ⟨rfl, hb⟩; refine qs1 (below_step zz20 hb) ?_; clear HB; intro HB; (try clear hb); (try clear hb2); (try clear hk); (try clear hi)))
  go_ret2
  exact ⟨zz7, zz20⟩

end

section
attribute [local go_sem high] run_add_cat run_slice_cat run_slice_cat_h run_slice_cat_l run_slice_cat_all
/-! ### impl_EncodeRecord: function 31 -/
def impl_EncodeRecord.j0 : Nat → Int → Bool → ByteArray → ByteArray → Option (ByteArray × Bool)
  | 0, _, _, _, _ => none
  | k + 1, x0, x15, x174000, x174001 => if x15 = true then (some ((⟨#[]⟩ : ByteArray), false)) else ((impl_decimal.f x0).bind fun t176 => (if t176.size + 1 ≤ 9223372036854775807 then (if (cat t176 (⟨#[32]⟩ : ByteArray)).size + x174000.size ≤ 9223372036854775807 then (if (cat (cat t176 (⟨#[32]⟩ : ByteArray)) x174000).size + 1 ≤ 9223372036854775807 then (if (cat (cat (cat t176 (⟨#[32]⟩ : ByteArray)) x174000) (⟨#[64]⟩ : ByteArray)).size + x174001.size ≤ 9223372036854775807 then ((impl_AppendChecksum.f k (cat (cat (cat (cat t176 (⟨#[32]⟩ : ByteArray)) x174000) (⟨#[64]⟩ : ByteArray)) x174001)).bind fun bt177 => (if bt177.1.size + 1 ≤ 9223372036854775807 then (some (cat bt177.1 (⟨#[10]⟩ : ByteArray), true)) else (none))) else (none)) else (none)) else (none)) else (none)))
def impl_EncodeRecord.f (k : Nat) (a0 : Int) (a1_0 : ByteArray) (a1_1 : ByteArray) : Option (ByteArray × Bool) := (impl_in.f a0 0 59).bind fun t174 => (if t174 = true then ((impl_IsValidRecord.f a1_0 a1_1).bind fun t175 => (impl_EncodeRecord.j0 k a0 (!t175) a1_0 a1_1)) else (impl_EncodeRecord.j0 k a0 true a1_0 a1_1))
def impl_EncodeRecord.T3 : Bool × List (List Nat × List Nat) := (true, [([], []), ([0], [0]), ([1], [1]), ([], []), ([3], [3]), ([2, 4], [2, 4]), ([5], [5]), ([], []), ([7], [7]), ([6, 8], [6, 8]), ([9, 1], [9]), ([10], [10]), ([11], [11]), ([11], [11]), ([12, 10, 0, 1, 2, 3, 4, 5, 6, 7, 8, 9, 10, 11, 12], [12]), ([13, 14, 0, 1, 2, 3, 4, 5, 6, 7, 8, 9, 10, 11, 12, 13, 14], [13])])
def impl_EncodeRecord.B3 : List Nat := [0, 1, 3, 0, 8, 31, 63, 0, 128, 511, 1023, 2047, 4095, 4095, 8191, 32767]
theorem impl_EncodeRecord.tab3 : rtab .any (opsOf Tryd.f31 3) = impl_EncodeRecord.T3 := by kernel_rfl
theorem impl_EncodeRecord.bits3 : waitsOk impl_EncodeRecord.T3.2 impl_EncodeRecord.B3 = true := by kernel_rfl
set_option maxHeartbeats 8000000 in
set_option maxRecDepth 100000 in
theorem impl_EncodeRecord.calls (k : Nat) (a0 : Int) (a1_0 : ByteArray) (a1_1 : ByteArray) (r1 : ByteArray) (r2 : Bool) (w : World) (hG : Gl w) (h : impl_EncodeRecord.f k a0 a1_0 a1_1 = some (r1, r2)) :
    Calls Tryd.prog 31 #[.int .i64 a0, .agg #[.string a1_0, .string a1_1]] w fun e w' => e = .returned (.tuple #[.string r1, .bool r2]) ∧ Below w.heap.size w w' := by
  have hu40 := Tryd.underlying40
  have HG := Aside0.mk hG
  clear hG
  have HB := Aside0.mk (Below.refl w.heap.size w)
  unfold impl_EncodeRecord.f at h
  have H := h
  clear h
  have HC3 := Aside0.mk H
  clear H
  go_enter Tryd.func31, Tryd.ntmps31
  go_upto_region 1 with (first | ((with_reducible refine gate_dst (N := 3) rfl ?_); refine qbox (N := 3) (cs := #[.string a1_0, .string a1_1]) (t := 40) ?_; intro gb173 hg w4 hbox hb; refine qs4 (below_step zz20 hb) (hbox) ((zz119 : w.heap.size ≤ gb173)) ((zz119 : w.heap.size ≤ gb173)) ?_; clear HB; intro HB BK173 GW173 GE173; clear hb hbox hg))
  (try simp only [Act.put, List.setIfInBounds_toArray, List.set_cons_zero, List.set_cons_succ])
  go_cut [15] (fun v15 wc => ∃ (kq : Nat) (x15_2 : Bool), v15 = .bool x15_2 ∧ Aside0 (impl_EncodeRecord.j0 kq a0 x15_2 a1_0 a1_1 = some (r1, r2)) ∧ Aside0 (kq ≤ k) ∧ Aside0 (wc.heap[gb173]? = some (.cells #[.string a1_0, .string a1_1] 40 (0, 0))) ∧ Aside0 (Below w.heap.size w wc))
  case first =>
    have H := HC3.out
    clear HC3
    replace H := Option.bind_eq_some_iff.mp H
    obtain ⟨t174, A50, H⟩ := H
    (try dsimp only at H)
    have A5 := Aside0.mk A50
    clear A50
    by_cases c6 : t174 = true
    rotate_left
    · replace c6 := Bool.eq_false_iff.mpr c6
      subst c6
      rw [if_neg (show ¬ (false = true) by decide)] at H
      have H' := Aside0.mk H
      clear H
      go_wp2_with (first | ((with_reducible refine gate_callee (f := 43) rfl ?_); refine qcall 9 Tryd.func43 rfl #[.int .i64 a0, .int .i64 0, .int .i64 59] ?_; (with_reducible refine (impl_in.calls a0 0 59 false _ A5.out).mono ?_); rintro e w' ⟨rfl, ⟨nd, rfl⟩⟩; refine ⟨_, rfl, ?_⟩))
      go_meet
      case rel => exact ⟨_, (true), zz3, H', ⟨zz1⟩, ⟨by (with_reducible repeat (first | refine blk_drewN ?_ _ | refine blk_drew ?_ | refine blk_alloc ?_ _)); exact BK173.out⟩, ⟨zz30⟩⟩
    subst c6
    rw [if_pos rfl] at H
    replace H := Option.bind_eq_some_iff.mp H
    obtain ⟨t175, A70, H⟩ := H
    (try dsimp only at H)
    have A7 := Aside0.mk A70
    clear A70
    have H' := Aside0.mk H
    clear H
    go_wp2_with (first | ((with_reducible refine gate_callee (f := 43) rfl ?_); refine qcall 9 Tryd.func43 rfl #[.int .i64 a0, .int .i64 0, .int .i64 59] ?_; (with_reducible refine (impl_in.calls a0 0 59 true _ A5.out).mono ?_); rintro e w' ⟨rfl, ⟨nd, rfl⟩⟩; refine ⟨_, rfl, ?_⟩; obtain ⟨hcz8_0, hcz8_1, hfz8_0, hfz8_1⟩ := qc2 BK173.out) | (go_at_call 37; (with_reducible refine (impl_IsValidRecord.calls a1_0 a1_1 t175 _ ?side1 A7.out).mono ?_); (case side1 => exact Gl.below HG.out zz30); rintro e w9 ⟨rfl, hb⟩; refine qs2 (blk_below (qb BK173.out) hb) (below_step zz30 hb) ?_; clear BK173 HB; intro BK173 HB; (try clear hb); (try clear hb2); (try clear hk); (try clear hi)))
    go_meet
    case rel => exact ⟨_, (!t175), zz3, H', ⟨zz1⟩, ⟨by (with_reducible repeat (first | refine blk_drewN ?_ _ | refine blk_drew ?_ | refine blk_alloc ?_ _)); exact BK173.out⟩, ⟨zz30⟩⟩
  case rest =>
    clear HC3
    try clear p2
    try clear c3
    try clear c4
    try clear c6
    try clear hcz8_0
    try clear hcz8_1
    try clear hfz8_0
    try clear hfz8_1
    obtain ⟨kq, x15_2, rfl, HA, HJ2, BK173, HB⟩ := hcut
    cases kq with
    | zero => exact absurd HA.out (by simp [impl_EncodeRecord.j0])
    | succ kj2 =>
      have H := HA.out
      clear HA
      simp only [impl_EncodeRecord.j0] at H
      by_cases c10 : x15_2 = true
      · subst c10
        rw [if_pos rfl] at H
        simp only [Option.some.injEq, Prod.mk.injEq] at H
        obtain ⟨rfl, rfl⟩ := H
        go_wp2
        go_ret2
        exact ⟨zz7, zz30⟩
      replace c10 := Bool.eq_false_iff.mpr c10
      subst c10
      rw [if_neg (show ¬ (false = true) by decide)] at H
      replace H := Option.bind_eq_some_iff.mp H
      obtain ⟨t176, A110, H⟩ := H
      (try dsimp only at H)
      have A11 := Aside0.mk A110
      clear A110
      by_cases c12 : t176.size + 1 ≤ 9223372036854775807
      rotate_left
      · rw [if_neg c12] at H
        exact absurd H (by simp)
      rw [if_pos c12] at H
      have c12b0 := eq_true c12
      have c12b1 := decide_eq_true c12
      try have c12b2 := eq_false (Nat.not_lt.2 c12)
      clear c12
      by_cases c13 : (cat t176 (⟨#[32]⟩ : ByteArray)).size + a1_0.size ≤ 9223372036854775807
      rotate_left
      · rw [if_neg c13] at H
        exact absurd H (by simp)
      rw [if_pos c13] at H
      have c13b0 := eq_true c13
      have c13b1 := decide_eq_true c13
      try have c13b2 := eq_false (Nat.not_lt.2 c13)
      clear c13
      by_cases c14 : (cat (cat t176 (⟨#[32]⟩ : ByteArray)) a1_0).size + 1 ≤ 9223372036854775807
      rotate_left
      · rw [if_neg c14] at H
        exact absurd H (by simp)
      rw [if_pos c14] at H
      have c14b0 := eq_true c14
      have c14b1 := decide_eq_true c14
      try have c14b2 := eq_false (Nat.not_lt.2 c14)
      clear c14
      by_cases c15 : (cat (cat (cat t176 (⟨#[32]⟩ : ByteArray)) a1_0) (⟨#[64]⟩ : ByteArray)).size + a1_1.size ≤ 9223372036854775807
      rotate_left
      · rw [if_neg c15] at H
        exact absurd H (by simp)
      rw [if_pos c15] at H
      have c15b0 := eq_true c15
      have c15b1 := decide_eq_true c15
      try have c15b2 := eq_false (Nat.not_lt.2 c15)
      clear c15
      replace H := Option.bind_eq_some_iff.mp H
      obtain ⟨⟨t177, t178⟩, A160, H⟩ := H
      (try dsimp only at H)
      have A16 := Aside0.mk A160
      clear A160
      by_cases c17 : t177.size + 1 ≤ 9223372036854775807
      rotate_left
      · rw [if_neg c17] at H
        exact absurd H (by simp)
      rw [if_pos c17] at H
      have c17b0 := eq_true c17
      have c17b1 := decide_eq_true c17
      try have c17b2 := eq_false (Nat.not_lt.2 c17)
      clear c17
      simp only [Option.some.injEq, Prod.mk.injEq] at H
      obtain ⟨rfl, rfl⟩ := H
      try go_wp2
      refine qs2 (blk_drew BK173.out) (below_drew1 HB.out) ?_; clear BK173 HB; intro BK173 HB
      refine start_ (n := 16) (S := fun w' => w'.cell? ⟨gb173, 0, none⟩ = some (.string a1_0) ∧ w'.cell? ⟨gb173, 1, none⟩ = some (.string a1_1)) (ds := []) #[false, false, false, false, false, false, false, false, false, false, false, false, false, false, false, false] (by kernel_rfl) rfl rfl ⟨(blk_cell BK173.out 0).trans rfl, (blk_cell BK173.out 1).trans rfl⟩ (fun hHeld => ?_); refine with_tabW impl_EncodeRecord.tab3 impl_EncodeRecord.bits3 (fun HT_ HW_ => ?_)
      generalize wc.drew = w18 at BK173 HB hHeld ⊢
      refine qp 0 17 ?_; refine qp 3 20 ?_; refine qp 7 24 ?_; refine qt2 4 21 ?_; refine qt2 8 25 ?_
      refine one_ (i := 1) (N := some 18) #[true, true, false, true, true, false, false, true, true, false, false, false, false, false, false, false] rfl rfl (one_of HT_.out (by kernel_rfl)) (by decide) (fun K hK => ?_)
      refine goes_ Tryd.func52 (by kernel_rfl) rfl #[.int .i64 a0] (by rfl) rfl rfl zz21 ?_
      with_reducible refine (impl_decimal.calls a0 t176 _ ?side1 A11.out).mono ?_
      (case side1 => exact Gl.below HG.out zz30)
      rintro e w19 ⟨rfl, hb⟩
      refine ⟨_, rfl, ?_⟩
      refine qs2 (blk_below (qb BK173.out) hb) (below_step zz30 hb) ?_; clear BK173 HB; intro BK173 HB
      (try clear hb)
      (try clear hb2)
      (try clear hk)
      (try clear hi)
      refine hK.out _ _ ⟨(blk_cell BK173.out 0).trans rfl, (blk_cell BK173.out 1).trans rfl⟩ (fun hHeld => ?_)
      clear hK K
      refine norm_ (a' := ?_) ?_ ?_
      rotate_left
      · show Act.put _ (some 18) _ = _
        simp only [Act.put, List.setIfInBounds_toArray, List.set_cons_zero, List.set_cons_succ, i64_w, i32_w]
        rfl
      refine qp 2 19 ?_; refine qp 5 22 ?_; refine qp 6 23 ?_; refine qp 9 26 ?_
      refine one_ (i := 10) (N := some 27) #[true, true, true, true, true, true, true, true, true, true, true, false, false, false, false, false] rfl rfl (one_of HT_.out (by kernel_rfl)) (by decide) (fun K hK => ?_)
      refine goes_ Tryd.func51 (by kernel_rfl) rfl #[.string (cat (cat (cat (cat t176 (⟨#[32]⟩ : ByteArray)) a1_0) (⟨#[64]⟩ : ByteArray)) a1_1)] (by rfl) rfl rfl zz21 ?_
      with_reducible refine (impl_AppendChecksum.calls kj2 (cat (cat (cat (cat t176 (⟨#[32]⟩ : ByteArray)) a1_0) (⟨#[64]⟩ : ByteArray)) a1_1) t177 t178 _ ?side1 A16.out).mono ?_
      (case side1 => exact Gl.below HG.out zz30)
      rintro e w20 ⟨rfl, hb⟩
      refine ⟨_, rfl, ?_⟩
      refine qs2 (blk_below (qb BK173.out) hb) (below_step zz30 hb) ?_; clear BK173 HB; intro BK173 HB
      (try clear hb)
      (try clear hb2)
      (try clear hk)
      (try clear hi)
      refine hK.out _ _ ⟨(blk_cell BK173.out 0).trans rfl, (blk_cell BK173.out 1).trans rfl⟩ (fun hHeld => ?_)
      clear hK K
      refine norm_ (a' := ?_) ?_ ?_
      rotate_left
      · show Act.put _ (some 27) _ = _
        simp only [Act.put, List.setIfInBounds_toArray, List.set_cons_zero, List.set_cons_succ, i64_w, i32_w]
        rfl
      refine qp 11 16 ?_; refine qp 12 28 ?_; refine qp 13 29 ?_; refine qp 14 6 ?_; refine qp 15 7 ?_
      refine done_ (done_of HT_.out (by kernel_rfl)) ?_
      try go_wp2
      go_ret2
      exact ⟨zz7, zz30⟩

end

/-! ### strings_Cut: function 77 (by hand) -/
def strings_Cut.f (a0 a1 : ByteArray) : Option (ByteArray × ByteArray × Bool) := if a0.size < 4294967281 then some (⟨(Lib.cut a0.data.toList a1.data.toList).1.toArray⟩, ⟨(Lib.cut a0.data.toList a1.data.toList).2.1.toArray⟩, (Lib.cut a0.data.toList a1.data.toList).2.2) else none
theorem strings_Cut.calls (a0 a1 : ByteArray) (r1 : ByteArray) (r2 : ByteArray) (r3 : Bool) (w : World) (hG : Gl w) (h : strings_Cut.f a0 a1 = some (r1, r2, r3)) :
    Calls Tryd.prog 77 #[.string a0, .string a1] w fun e w' => e = .returned (.tuple #[.string r1, .string r2, .bool r3]) ∧ Below w.heap.size w w' := by
  unfold strings_Cut.f at h
  split at h
  · rename_i hb
    have h := Option.some.inj h
    simp only [Prod.mk.injEq] at h
    obtain ⟨rfl, rfl, rfl⟩ := h
    obtain ⟨m, hm⟩ := hG.1
    refine (Tryd.strings_Cut a0 a1 m w hb hm).mono ?_
    rintro e w' ⟨he, k, rfl⟩
    exact ⟨he, pw_below_drewN (Below.refl _ _) k⟩
  · cases h


section
attribute [local go_sem high] run_add_cat run_slice_cat run_slice_cat_h run_slice_cat_l run_slice_cat_all
/-! ### impl_VerifyChecksum: function 78 -/
def impl_VerifyChecksum.f (k : Nat) (a0 : ByteArray) : Option (ByteArray × Bool) := (strings_Cut.f a0 (⟨#[35]⟩ : ByteArray)).bind fun bt179 => ((impl_AppendChecksum.f k bt179.1).bind fun bt182 => (if bt182.2 = true then (if bt182.1.toList = a0.toList then (some (bt179.1, true)) else (some ((⟨#[]⟩ : ByteArray), false))) else (some ((⟨#[]⟩ : ByteArray), false))))
set_option maxHeartbeats 8000000 in
set_option maxRecDepth 100000 in
theorem impl_VerifyChecksum.calls (k : Nat) (a0 : ByteArray) (r1 : ByteArray) (r2 : Bool) (w : World) (hG : Gl w) (h : impl_VerifyChecksum.f k a0 = some (r1, r2)) :
    Calls Tryd.prog 78 #[.string a0] w fun e w' => e = .returned (.tuple #[.string r1, .bool r2]) ∧ Below w.heap.size w w' := by
  have HG := Aside0.mk hG
  clear hG
  have HB := Aside0.mk (Below.refl w.heap.size w)
  unfold impl_VerifyChecksum.f at h
  have H := h
  clear h
  replace H := Option.bind_eq_some_iff.mp H
  obtain ⟨⟨t179, t180, t181⟩, A20, H⟩ := H
  (try dsimp only at H)
  have A2 := Aside0.mk A20
  clear A20
  replace H := Option.bind_eq_some_iff.mp H
  obtain ⟨⟨t182, t183⟩, A30, H⟩ := H
  (try dsimp only at H)
  have A3 := Aside0.mk A30
  clear A30
  by_cases c4 : t183 = true
  rotate_left
  · replace c4 := Bool.eq_false_iff.mpr c4
    subst c4
    rw [if_neg (show ¬ (false = true) by decide)] at H
    simp only [Option.some.injEq, Prod.mk.injEq] at H
    obtain ⟨rfl, rfl⟩ := H
    go_enter Tryd.func78, Tryd.ntmps78
    go_wp2_with (first | ((with_reducible refine gate_callee (f := 77) rfl ?_); refine qcall 11 Tryd.func77 rfl #[.string a0, .string (⟨#[35]⟩ : ByteArray)] ?_; (with_reducible refine (strings_Cut.calls a0 (⟨#[35]⟩ : ByteArray) t179 t180 t181 _ ?side1 A2.out).mono ?_); (case side1 => exact zz118); rintro e w10 ⟨rfl, hb⟩; refine ⟨_, rfl, ?_⟩; refine qs1 (below_step zz20 hb) ?_; clear HB; intro HB; (try clear hb); (try clear hb2); (try clear hk); (try clear hi)) | ((with_reducible refine gate_callee (f := 51) rfl ?_); refine qcall 17 Tryd.func51 rfl #[.string t179] ?_; (with_reducible refine (impl_AppendChecksum.calls k t179 t182 false _ ?side1 A3.out).mono ?_); (case side1 => exact zz118); rintro e w11 ⟨rfl, hb⟩; refine ⟨_, rfl, ?_⟩; refine qs1 (below_step zz20 hb) ?_; clear HB; intro HB; (try clear hb); (try clear hb2); (try clear hk); (try clear hi)))
    go_ret2
    exact ⟨zz7, zz20⟩
  subst c4
  rw [if_pos rfl] at H
  by_cases c5 : t182.toList = a0.toList
  rotate_left
  · rw [if_neg c5] at H
    have c5b0 := beq_eq_false_iff_ne.mpr c5
    have c5b1 := bne_iff_ne.mpr c5
    simp only [Option.some.injEq, Prod.mk.injEq] at H
    obtain ⟨rfl, rfl⟩ := H
    go_enter Tryd.func78, Tryd.ntmps78
    go_wp2_with (first | ((with_reducible refine gate_callee (f := 77) rfl ?_); refine qcall 11 Tryd.func77 rfl #[.string a0, .string (⟨#[35]⟩ : ByteArray)] ?_; (with_reducible refine (strings_Cut.calls a0 (⟨#[35]⟩ : ByteArray) t179 t180 t181 _ ?side1 A2.out).mono ?_); (case side1 => exact zz118); rintro e w8 ⟨rfl, hb⟩; refine ⟨_, rfl, ?_⟩; refine qs1 (below_step zz20 hb) ?_; clear HB; intro HB; (try clear hb); (try clear hb2); (try clear hk); (try clear hi)) | ((with_reducible refine gate_callee (f := 51) rfl ?_); refine qcall 17 Tryd.func51 rfl #[.string t179] ?_; (with_reducible refine (impl_AppendChecksum.calls k t179 t182 true _ ?side1 A3.out).mono ?_); (case side1 => exact zz118); rintro e w9 ⟨rfl, hb⟩; refine ⟨_, rfl, ?_⟩; refine qs1 (below_step zz20 hb) ?_; clear HB; intro HB; (try clear hb); (try clear hb2); (try clear hk); (try clear hi)))
    go_ret2
    exact ⟨zz7, zz20⟩
  rw [if_pos c5] at H
  have c5b0 := beq_iff_eq.mpr c5
  have c5b1 := bne_eq_false_iff_eq.mpr c5
  clear c5
  simp only [Option.some.injEq, Prod.mk.injEq] at H
  obtain ⟨rfl, rfl⟩ := H
  go_enter Tryd.func78, Tryd.ntmps78
  go_wp2_with (first | ((with_reducible refine gate_callee (f := 77) rfl ?_); refine qcall 11 Tryd.func77 rfl #[.string a0, .string (⟨#[35]⟩ : ByteArray)] ?_; (with_reducible refine (strings_Cut.calls a0 (⟨#[35]⟩ : ByteArray) t179 t180 t181 _ ?side1 A2.out).mono ?_); (case side1 => exact zz118); rintro e w6 ⟨rfl, hb⟩; refine ⟨_, rfl, ?_⟩; refine qs1 (below_step zz20 hb) ?_; clear HB; intro HB; (try clear hb); (try clear hb2); (try clear hk); (try clear hi)) | ((with_reducible refine gate_callee (f := 51) rfl ?_); refine qcall 17 Tryd.func51 rfl #[.string t179] ?_; (with_reducible refine (impl_AppendChecksum.calls k t179 t182 true _ ?side1 A3.out).mono ?_); (case side1 => exact zz118); rintro e w7 ⟨rfl, hb⟩; refine ⟨_, rfl, ?_⟩; refine qs1 (below_step zz20 hb) ?_; clear HB; intro HB; (try clear hb); (try clear hb2); (try clear hk); (try clear hi)))
  go_ret2
  exact ⟨zz7, zz20⟩

end

/-! ### strings_HasPrefix: function 79 (by hand) -/
def strings_HasPrefix.f (a0 a1 : ByteArray) : Option Bool := some (Lib.hasPrefix a0.data.toList a1.data.toList)
theorem strings_HasPrefix.calls (a0 a1 : ByteArray) (r : Bool) (w : World) (h : strings_HasPrefix.f a0 a1 = some r) :
    Calls Tryd.prog 79 #[.string a0, .string a1] w fun e w' => e = .returned (.bool r) ∧ Drawn0 w w' := by
  obtain rfl := Option.some.inj h
  refine (Tryd.strings_HasPrefix a0 a1 w).mono ?_
  rintro e w' ⟨he, rfl⟩
  exact ⟨he, Drawn0.refl _⟩


section
attribute [local go_sem high] run_add_cat run_slice_cat run_slice_cat_h run_slice_cat_l run_slice_cat_all
/-! ### impl_cutRecord: function 71 -/
def impl_cutRecord.j0 : Nat → ByteArray → Bool → ByteArray → ByteArray → Option (ByteArray × ByteArray × Int)
  | 0, _, _, _, _ => none
  | k + 1, x18, x59, x197000, x197001 => if x59 = true then (some ((⟨#[]⟩ : ByteArray), (⟨#[]⟩ : ByteArray), 0)) else (some (x197000, x197001, (x18.size : Int)))
def impl_cutRecord.f (k : Nat) (a0 : ByteArray) (a1 : Int) : Option (ByteArray × ByteArray × Int) := (strings_Cut.f a0 (⟨#[10]⟩ : ByteArray)).bind fun bt185 => ((impl_VerifyChecksum.f k bt185.1).bind fun bt188 => ((strings_Cut.f bt188.1 (⟨#[32]⟩ : ByteArray)).bind fun bt190 => ((strings_Cut.f bt190.2.1 (⟨#[64]⟩ : ByteArray)).bind fun bt193 => ((impl_EncodeRecord.f k a1 bt193.1 bt193.2.1).bind fun bt197 => (if bt197.2 = true then ((strings_HasPrefix.f a0 bt197.1).bind fun t199 => (impl_cutRecord.j0 k bt197.1 (!t199) bt193.1 bt193.2.1)) else (impl_cutRecord.j0 k bt197.1 true bt193.1 bt193.2.1))))))
set_option maxHeartbeats 8000000 in
set_option maxRecDepth 100000 in
theorem impl_cutRecord.calls (k : Nat) (a0 : ByteArray) (a1 : Int) (r1 : ByteArray) (r2 : ByteArray) (r3 : Int) (w : World) (hG : Gl w) (h : impl_cutRecord.f k a0 a1 = some (r1, r2, r3)) :
    Calls Tryd.prog 71 #[.string a0, .int .i64 a1] w fun e w' => e = .returned (.tuple #[.agg #[.string r1, .string r2], .int .i64 r3]) ∧ Below w.heap.size w w' := by
  have hu40 := Tryd.underlying40
  have HG := Aside0.mk hG
  clear hG
  have HB := Aside0.mk (Below.refl w.heap.size w)
  unfold impl_cutRecord.f at h
  have H := h
  clear h
  replace H := Option.bind_eq_some_iff.mp H
  obtain ⟨⟨t185, t186, t187⟩, A30, H⟩ := H
  (try dsimp only at H)
  have A3 := Aside0.mk A30
  clear A30
  replace H := Option.bind_eq_some_iff.mp H
  obtain ⟨⟨t188, t189⟩, A40, H⟩ := H
  (try dsimp only at H)
  have A4 := Aside0.mk A40
  clear A40
  replace H := Option.bind_eq_some_iff.mp H
  obtain ⟨⟨t190, t191, t192⟩, A50, H⟩ := H
  (try dsimp only at H)
  have A5 := Aside0.mk A50
  clear A50
  replace H := Option.bind_eq_some_iff.mp H
  obtain ⟨⟨t193, t194, t195⟩, A60, H⟩ := H
  (try dsimp only at H)
  have A6 := Aside0.mk A60
  clear A60
  replace H := Option.bind_eq_some_iff.mp H
  obtain ⟨⟨t197, t198⟩, A70, H⟩ := H
  (try dsimp only at H)
  have A7 := Aside0.mk A70
  clear A70
  have HC8 := Aside0.mk H
  clear H
  go_enter Tryd.func71, Tryd.ntmps71
  go_upto_region 7 with (first | ((with_reducible refine gate_dst (N := 4) rfl ?_); refine qbox (N := 4) (cs := #[.string (⟨#[]⟩ : ByteArray), .string (⟨#[]⟩ : ByteArray)]) (t := 40) ?_; intro gb184 hg w9 hbox hb; refine qs4 (below_step zz20 hb) (hbox) ((zz119 : w.heap.size ≤ gb184)) ((zz119 : w.heap.size ≤ gb184)) ?_; clear HB; intro HB BK184 GW184 GE184; clear hb hbox hg) | ((with_reducible refine gate_callee (f := 77) rfl ?_); refine qcall 22 Tryd.func77 rfl #[.string a0, .string (⟨#[10]⟩ : ByteArray)] ?_; (with_reducible refine (strings_Cut.calls a0 (⟨#[10]⟩ : ByteArray) t185 t186 t187 _ ?side1 A3.out).mono ?_); (case side1 => exact Gl.below HG.out zz28); rintro e w10 ⟨rfl, hb⟩; refine ⟨_, rfl, ?_⟩; refine qs2 (blk_below (qb BK184.out) hb) (below_step zz28 hb) ?_; clear BK184 HB; intro BK184 HB; (try clear hb); (try clear hb2); (try clear hk); (try clear hi)) | ((with_reducible refine gate_callee (f := 78) rfl ?_); refine qcall 28 Tryd.func78 rfl #[.string t185] ?_; (with_reducible refine (impl_VerifyChecksum.calls k t185 t188 t189 _ ?side1 A4.out).mono ?_); (case side1 => exact Gl.below HG.out zz28); rintro e w11 ⟨rfl, hb⟩; refine ⟨_, rfl, ?_⟩; refine qs2 (blk_below (qb BK184.out) hb) (below_step zz28 hb) ?_; clear BK184 HB; intro BK184 HB; (try clear hb); (try clear hb2); (try clear hk); (try clear hi)) | ((with_reducible refine gate_callee (f := 77) rfl ?_); refine qcall 33 Tryd.func77 rfl #[.string t188, .string (⟨#[32]⟩ : ByteArray)] ?_; (with_reducible refine (strings_Cut.calls t188 (⟨#[32]⟩ : ByteArray) t190 t191 t192 _ ?side1 A5.out).mono ?_); (case side1 => exact Gl.below HG.out zz28); rintro e w12 ⟨rfl, hb⟩; refine ⟨_, rfl, ?_⟩; refine qs2 (blk_below (qb BK184.out) hb) (below_step zz28 hb) ?_; clear BK184 HB; intro BK184 HB; (try clear hb); (try clear hb2); (try clear hk); (try clear hi)) | ((with_reducible refine gate_callee (f := 77) rfl ?_); refine qcall 39 Tryd.func77 rfl #[.string t191, .string (⟨#[64]⟩ : ByteArray)] ?_; (with_reducible refine (strings_Cut.calls t191 (⟨#[64]⟩ : ByteArray) t193 t194 t195 _ ?side1 A6.out).mono ?_); (case side1 => exact Gl.below HG.out zz28); rintro e w13 ⟨rfl, hb⟩; refine ⟨_, rfl, ?_⟩; refine qs2 (blk_below (qb BK184.out) hb) (below_step zz28 hb) ?_; clear BK184 HB; intro BK184 HB; (try clear hb); (try clear hb2); (try clear hk); (try clear hi)) | ((with_reducible refine gate_dst (N := 17) rfl ?_); refine qbox (N := 17) (cs := #[.string (⟨#[]⟩ : ByteArray), .string (⟨#[]⟩ : ByteArray)]) (t := 40) ?_; intro gb196 hg w14 hbox hb; refine qs7 (blk_below (qb BK184.out) hb) (below_step zz28 hb) (hbox) ((by rw [hg]; exact (below_size zz28) : w.heap.size ≤ gb196)) ((by rw [hg]; exact (below_size zz28) : w.heap.size ≤ gb196)) ((by rw [hg]; exact Nat.ne_of_lt (blk_lt (qb BK184.out)) : gb184 ≠ gb196)) ((by rw [hg]; exact Nat.ne_of_gt (blk_lt (qb BK184.out)) : gb196 ≠ gb184)) ?_; clear BK184 HB; intro BK184 HB BK196 GW196 GE196 NB184_196 NB196_184; clear hb hbox hg; have hnb15 := NB196_184.out; have hnc15 := NB184_196.out; obtain ⟨hcz16_0, hcz16_1, hfz16_0, hfz16_1⟩ := qc2 BK196.out) | ((with_reducible refine gate_callee (f := 31) rfl ?_); refine qcall 49 Tryd.func31 rfl #[.int .i64 a1, .agg #[.string t193, .string t194]] ?_; (with_reducible refine (impl_EncodeRecord.calls k a1 t193 t194 t197 t198 _ ?side1 A7.out).mono ?_); (case side1 => exact Gl.below HG.out zz53); rintro e w17 ⟨rfl, hb⟩; refine ⟨_, rfl, ?_⟩; refine qs3 (blk_below (g := gb184) (o := .cells #[.string (⟨#[]⟩ : ByteArray), .string (⟨#[]⟩ : ByteArray)] 40 (0, 0)) (by (with_reducible repeat (first | refine blk_drewN ?_ _ | refine blk_drew ?_ | refine blk_alloc ?_ _)); refine blk_far ?_ NB184_196.out _; (with_reducible repeat (first | refine blk_drewN ?_ _ | refine blk_drew ?_ | refine blk_alloc ?_ _)); refine blk_far ?_ NB184_196.out _; (with_reducible repeat (first | refine blk_drewN ?_ _ | refine blk_drew ?_ | refine blk_alloc ?_ _)); exact BK184.out) hb) (blk_below (g := gb196) (o := .cells #[.string t193, .string t194] 40 (0, 0)) (by (with_reducible repeat (first | refine blk_drewN ?_ _ | refine blk_drew ?_ | refine blk_alloc ?_ _)); refine blk_put (cs := #[.string t193, .string (⟨#[]⟩ : ByteArray)]) ?_ 1 _ rfl; (with_reducible repeat (first | refine blk_drewN ?_ _ | refine blk_drew ?_ | refine blk_alloc ?_ _)); refine blk_put (cs := #[.string (⟨#[]⟩ : ByteArray), .string (⟨#[]⟩ : ByteArray)]) ?_ 0 _ rfl; (with_reducible repeat (first | refine blk_drewN ?_ _ | refine blk_drew ?_ | refine blk_alloc ?_ _)); exact BK196.out) hb) (below_step zz53 hb) ?_; clear BK184 BK196 HB; intro BK184 BK196 HB; (try clear hb); (try clear hb2); (try clear hk); (try clear hi)))
  (try simp only [Act.put, List.setIfInBounds_toArray, List.set_cons_zero, List.set_cons_succ])
  go_cut [59] (fun v59 wc => ∃ (kq : Nat) (x59_7 : Bool), v59 = .bool x59_7 ∧ Aside0 (impl_cutRecord.j0 kq t197 x59_7 t193 t194 = some (r1, r2, r3)) ∧ Aside0 (kq ≤ k) ∧ Aside0 (wc.heap[gb184]? = some (.cells #[.string (⟨#[]⟩ : ByteArray), .string (⟨#[]⟩ : ByteArray)] 40 (0, 0))) ∧ Aside0 (wc.heap[gb196]? = some (.cells #[.string t193, .string t194] 40 (0, 0))) ∧ Aside0 (Below w.heap.size w wc))
  case first =>
    have H := HC8.out
    clear HC8
    by_cases c18 : t198 = true
    rotate_left
    · replace c18 := Bool.eq_false_iff.mpr c18
      subst c18
      rw [if_neg (show ¬ (false = true) by decide)] at H
      have H' := Aside0.mk H
      clear H
      go_wp2
      go_meet
      case rel => exact ⟨_, (true), zz3, H', ⟨zz1⟩, ⟨by (with_reducible repeat (first | refine blk_drewN ?_ _ | refine blk_drew ?_ | refine blk_alloc ?_ _)); exact BK184.out⟩, ⟨by (with_reducible repeat (first | refine blk_drewN ?_ _ | refine blk_drew ?_ | refine blk_alloc ?_ _)); exact BK196.out⟩, ⟨zz53⟩⟩
    subst c18
    rw [if_pos rfl] at H
    replace H := Option.bind_eq_some_iff.mp H
    obtain ⟨t199, A190, H⟩ := H
    (try dsimp only at H)
    have A19 := Aside0.mk A190
    clear A190
    have H' := Aside0.mk H
    clear H
    go_wp2_with (first | (go_at_call 79; (with_reducible refine (strings_HasPrefix.calls a0 t197 t199 _ A19.out).mono ?_); rintro e w' ⟨rfl, ⟨nd, rfl⟩⟩))
    go_meet
    case rel => exact ⟨_, (!t199), zz3, H', ⟨zz1⟩, ⟨by (with_reducible repeat (first | refine blk_drewN ?_ _ | refine blk_drew ?_ | refine blk_alloc ?_ _)); exact BK184.out⟩, ⟨by (with_reducible repeat (first | refine blk_drewN ?_ _ | refine blk_drew ?_ | refine blk_alloc ?_ _)); exact BK196.out⟩, ⟨zz53⟩⟩
  case rest =>
    clear HC8
    try clear c1
    try clear p2
    try clear c3
    try clear c7
    try clear c15
    try clear c18
    try clear hcz16_0
    try clear hcz16_1
    try clear hfz16_0
    try clear hfz16_1
    obtain ⟨kq, x59_7, rfl, HA, HJ7, BK184, BK196, HB⟩ := hcut
    cases kq with
    | zero => exact absurd HA.out (by simp [impl_cutRecord.j0])
    | succ kj7 =>
      have H := HA.out
      clear HA
      simp only [impl_cutRecord.j0] at H
      by_cases c20 : x59_7 = true
      · subst c20
        rw [if_pos rfl] at H
        simp only [Option.some.injEq, Prod.mk.injEq] at H
        obtain ⟨rfl, rfl, rfl⟩ := H
        have hnb21 := NB184_196.out
        have hnc21 := NB196_184.out
        obtain ⟨hcz22_0, hcz22_1, hfz22_0, hfz22_1⟩ := qc2 BK184.out
        go_wp2
        refine bodyPost_ret (results_ct rfl _ _ gb184 40 #[.string (⟨#[]⟩ : ByteArray), .string (⟨#[]⟩ : ByteArray)] (0, 0) _ rfl (by (with_reducible repeat (first | refine blk_drewN ?_ _ | refine blk_drew ?_ | refine blk_alloc ?_ _)); refine blk_put (cs := #[.string (⟨#[]⟩ : ByteArray), .string (⟨#[]⟩ : ByteArray)]) ?_ 1 _ rfl; (with_reducible repeat (first | refine blk_drewN ?_ _ | refine blk_drew ?_ | refine blk_alloc ?_ _)); refine blk_put (cs := #[.string (⟨#[]⟩ : ByteArray), .string (⟨#[]⟩ : ByteArray)]) ?_ 0 _ rfl; (with_reducible repeat (first | refine blk_drewN ?_ _ | refine blk_drew ?_ | refine blk_alloc ?_ _)); exact BK184.out) Tryd.underlying40 rfl (by kernel_rfl)) rfl ?_
        exact ⟨zz7, zz53⟩
      replace c20 := Bool.eq_false_iff.mpr c20
      subst c20
      rw [if_neg (show ¬ (false = true) by decide)] at H
      simp only [Option.some.injEq, Prod.mk.injEq] at H
      obtain ⟨rfl, rfl, rfl⟩ := H
      have hnb23 := NB196_184.out
      have hnc23 := NB184_196.out
      obtain ⟨hcz24_0, hcz24_1, hfz24_0, hfz24_1⟩ := qc2 BK196.out
      obtain ⟨hcz25_0, hcz25_1, hfz25_0, hfz25_1⟩ := qc2 BK184.out
      go_wp2
      refine bodyPost_ret (results_ct rfl _ _ gb184 40 #[.string t193, .string t194] (0, 0) _ rfl (by (with_reducible repeat (first | refine blk_drewN ?_ _ | refine blk_drew ?_ | refine blk_alloc ?_ _)); refine blk_put (cs := #[.string t193, .string (⟨#[]⟩ : ByteArray)]) ?_ 1 _ rfl; (with_reducible repeat (first | refine blk_drewN ?_ _ | refine blk_drew ?_ | refine blk_alloc ?_ _)); refine blk_put (cs := #[.string (⟨#[]⟩ : ByteArray), .string (⟨#[]⟩ : ByteArray)]) ?_ 0 _ rfl; (with_reducible repeat (first | refine blk_drewN ?_ _ | refine blk_drew ?_ | refine blk_alloc ?_ _)); exact BK184.out) Tryd.underlying40 rfl (by kernel_rfl)) rfl ?_
      exact ⟨zz7, zz53⟩

end

end Go.Proofs.YtokmidpeeejahaaDoor.G

-- Written by a program of this session (wip/pd.py), which calls the kit's print; externals' contracts by hand.
namespace Go.Proofs.YtokmidpeeejahaaDoor.G
open Go.Proofs.YtokmidpeeejahaaDoorQ
open Go.RowKit Go.Proofs.YtokmidpeeejahaaDoorW.PrintWords Go.Proofs.YtokmidpeeejahaaDoorW.PrintLast Go.Proofs.YtokmidpeeejahaaDoorW.PrintMore
attribute [local go_sem] max2_int min2_int max_two min_two max_three min_three max_four min_four   -- for this text's walks alone
set_option linter.unusedVariables false
set_option linter.unusedSimpArgs false

section
attribute [local go_sem high] run_add_cat run_slice_cat run_slice_cat_h run_slice_cat_l run_slice_cat_all
/-! ### impl_readLog: function 57 -/
def impl_readLog.l0 : Nat → ByteArray → List (S40) → List Int → Int → Option ((List (S40)) × List Int)
  | 0, _, _, _, _ => none
  | k + 1, x0, x2, x3, x4 => if (x2.length : Int) < 60 then (if 0 ≤ x4 then (if x4 ≤ (x0.size : Int) then ((impl_cutRecord.f k (subs x0 (x4 : Int).toNat x0.size) (x2.length : Int)).bind fun bt200 => (if bt200.2.2 = 0 then (some (x2, x3)) else (if x2.length < 4398046511104 then (if x3.length < 17592186044416 then (impl_readLog.l0 k x0 (x2 ++ [(⟨bt200.1, bt200.2.1⟩ : S40)]) (x3 ++ [wrap64 (x4 + bt200.2.2)]) (wrap64 (x4 + bt200.2.2))) else (none)) else (none)))) else (none)) else (none)) else (some (x2, x3))
def impl_readLog.f (k : Nat) (a0 : ByteArray) : Option ((List (S40)) × List Int) := impl_readLog.l0 k a0 ([] : List (S40)) ([] : List Int) 0
set_option maxHeartbeats 8000000 in
set_option maxRecDepth 100000 in
theorem impl_readLog.calls (k : Nat) (a0 : ByteArray) (r1 : List (S40)) (r2 : List Int) (w : World) (hG : Gl w) (h : impl_readLog.f k a0 = some (r1, r2)) :
    Calls Tryd.prog 57 #[.string a0] w fun e w' => ∃ v0_ v1_ : Value, e = .returned (.tuple #[v0_, v1_]) ∧ Kd.R k40 40 w' w.heap.size (fun _ => True) v0_ r1 ∧ Kd.R (Kd.int .i64) 3 w' w.heap.size (fun _ => True) v1_ r2 ∧ Below w.heap.size w w' := by
  have hu40 := Tryd.underlying40
  have HG := Aside0.mk hG
  clear hG
  have HB := Aside0.mk (Below.refl w.heap.size w)
  have H : (impl_readLog.l0 k a0 ([] : List (S40)) ([] : List Int) 0) = some (r1, r2) := h
  clear h
  have H' := Aside0.mk H
  clear H
  go_enter Tryd.func57, Tryd.ntmps57
  go_wp2
  go_loopg [2, 3, 4] k (fun kq v2 v3 v4 w' => ∃ (x2_1 : List (S40)) (x3_1 : List Int) (x4_1 : Int), v4 = .int .i64 x4_1 ∧ Aside0 (impl_readLog.l0 kq a0 x2_1 x3_1 x4_1 = some (r1, r2)) ∧ Aside0 (kq ≤ k) ∧ Aside0 (Kd.R k40 40 w' w.heap.size (fun _ => True) v2 x2_1) ∧ Aside0 (Kd.R (Kd.int .i64) 3 w' w.heap.size (fun _ => True) v3 x3_1) ∧ Aside0 (Below w.heap.size w w'))
  case atStart => exact ⟨(([] : List (S40))), (([] : List Int)), (0), zz3, H', ⟨Nat.le_refl _⟩, ⟨zz22⟩, ⟨zz22⟩, ⟨zz20⟩⟩
  case round =>
    clear H'
    obtain ⟨x2_1, x3_1, x4_1, rfl, HA, HK1, HO_2, HO_3, HB⟩ := hrel
    cases gk with
    | zero => exact absurd HA.out (by simp [impl_readLog.l0])
    | succ k1 =>
      have H := HA.out
      clear HA
      simp only [impl_readLog.l0] at H
      by_cases c2 : (x2_1.length : Int) < 60
      rotate_left
      · rw [if_neg c2] at H
        have c2b0 := decide_eq_false c2
        have c2b1 : decide (x2_1.length < 60) = false := decide_eq_false (by omega)
        clear c2
        simp only [Option.some.injEq, Prod.mk.injEq] at H
        obtain ⟨rfl, rfl⟩ := H
        obtain ⟨Ao19, co19, eo19⟩ := Kd.R_slice HO_2.out
        subst eo19
        go_wp2
        go_ret2
        exact ⟨_, _, zz7, by (with_reducible repeat (first | apply Kd.R_alloc | apply Kd.R_drewN | apply Kd.R_drew)); exact HO_2.out, by (with_reducible repeat (first | apply Kd.R_alloc | apply Kd.R_drewN | apply Kd.R_drew)); exact HO_3.out, zz20⟩
      rw [if_pos c2] at H
      have c2b0 := decide_eq_true c2
      have c2b1 : decide (x2_1.length < 60) = true := decide_eq_true (by omega)
      clear c2
      by_cases c3 : 0 ≤ x4_1
      rotate_left
      · rw [if_neg c3] at H
        exact absurd H (by simp)
      rw [if_pos c3] at H
      have c3b0 := eq_true c3
      have c3b1 := decide_eq_true c3
      clear c3
      by_cases c4 : x4_1 ≤ (a0.size : Int)
      rotate_left
      · rw [if_neg c4] at H
        exact absurd H (by simp)
      rw [if_pos c4] at H
      have c4b0 := eq_true c4
      have c4b1 := decide_eq_true c4
      clear c4
      replace H := Option.bind_eq_some_iff.mp H
      obtain ⟨⟨t200, t201, t202⟩, A50, H⟩ := H
      (try dsimp only at H)
      have A5 := Aside0.mk A50
      clear A50
      by_cases c6 : t202 = 0
      · rw [if_pos c6] at H
        have c6b0 := beq_iff_eq.mpr c6
        have c6b1 := bne_eq_false_iff_eq.mpr c6
        clear c6
        simp only [Option.some.injEq, Prod.mk.injEq] at H
        obtain ⟨rfl, rfl⟩ := H
        obtain ⟨Ao7, co7, eo7⟩ := Kd.R_slice HO_2.out
        subst eo7
        go_wp2_with (first | ((with_reducible refine gate_callee (f := 71) rfl ?_); refine qcall 16 Tryd.func71 rfl #[.string (subs a0 (x4_1 : Int).toNat a0.size), .int .i64 (x2_1.length : Int)] ?_; (with_reducible refine (impl_cutRecord.calls k1 (subs a0 (x4_1 : Int).toNat a0.size) (x2_1.length : Int) t200 t201 t202 _ ?side1 A5.out).mono ?_); (case side1 => exact zz118); rintro e w8 ⟨rfl, hb⟩; refine ⟨_, rfl, ?_⟩; refine qs3 (Kd.R_below (qr HO_2.out) hb) (Kd.R_below (qr HO_3.out) hb) (below_step zz20 hb) ?_; clear HO_2 HO_3 HB; intro HO_2 HO_3 HB; (try clear hb); (try clear hb2); (try clear hk); (try clear hi)) | ((with_reducible refine gate_dst (N := 5) rfl ?_); refine qbox (N := 5) (cs := #[.string (⟨#[]⟩ : ByteArray), .string (⟨#[]⟩ : ByteArray)]) (t := 40) ?_; intro gb203 hg w9 hbox hb; refine qs6 (Kd.R_below (Kd.R_elderB (qr HO_2.out) gb203 (Nat.le_of_eq hg.symm)) hb) (Kd.R_below (qr HO_3.out) hb) (below_step zz20 hb) (hbox) ((zz119 : w.heap.size ≤ gb203)) ((zz119 : w.heap.size ≤ gb203)) ?_; clear HO_2 HO_3 HB; intro HO_2 HO_3 HB BK203 GW203 GE203; clear hb hbox hg; obtain ⟨hcz10_0, hcz10_1, hfz10_0, hfz10_1⟩ := qc2 BK203.out))
        go_ret2
        exact ⟨_, _, zz7, by (with_reducible repeat (first | apply Kd.R_alloc | apply Kd.R_drewN | apply Kd.R_drew)); exact Kd.R_mono (Kd.R_far (p := ⟨gb203, 1, none⟩) (Kd.R_far (p := ⟨gb203, 0, none⟩) (Kd.R_mono HO_2.out (fun k_ hk => (⟨hk, hk.2⟩ : _ ∧ k_ ≠ gb203))) (fun _ hk => hk.2) (.string t200)) (fun _ hk => hk.2) (.string t201)) (fun _ hk => trivial), by (with_reducible repeat (first | apply Kd.R_alloc | apply Kd.R_drewN | apply Kd.R_drew)); exact Kd.R_mono (Kd.R_far (p := ⟨gb203, 1, none⟩) (Kd.R_far (p := ⟨gb203, 0, none⟩) (Kd.R_types HO_3.out BK203.out (by decide)) (fun _ hk => hk.2) (.string t200)) (fun _ hk => hk.2) (.string t201)) (fun _ hk => trivial), zz33⟩
      rw [if_neg c6] at H
      have c6b0 := beq_eq_false_iff_ne.mpr c6
      have c6b1 := bne_iff_ne.mpr c6
      by_cases c11 : x2_1.length < 4398046511104
      rotate_left
      · rw [if_neg c11] at H
        exact absurd H (by simp)
      rw [if_pos c11] at H
      have LMc11 := Aside0.mk c11
      clear c11
      obtain ⟨y204, hy204⟩ : ∃ y_ : List (S40), y_ = (x2_1 ++ [(⟨t200, t201⟩ : S40)]) := ⟨_, rfl⟩
      replace H : (if x3_1.length < 17592186044416 then (impl_readLog.l0 k1 a0 y204 (x3_1 ++ [wrap64 (x4_1 + t202)]) (wrap64 (x4_1 + t202))) else (none)) = some (r1, r2) := by first | (rw [hy204]; with_reducible exact H) | (have H2_ := (Option.bind_some _ _).symm.trans H; rw [hy204]; with_reducible exact H2_) | (have H2_ := (Option.bind_some _ _).symm.trans H; with_reducible exact H2_) | with_reducible exact H | (rw [hy204]; exact H) | exact H
      have Ny204 := Aside0.mk hy204
      clear hy204
      by_cases c12 : x3_1.length < 17592186044416
      rotate_left
      · rw [if_neg c12] at H
        exact absurd H (by simp)
      rw [if_pos c12] at H
      have LMc12 := Aside0.mk c12
      clear c12
      obtain ⟨y207, hy207⟩ : ∃ y_ : List Int, y_ = (x3_1 ++ [wrap64 (x4_1 + t202)]) := ⟨_, rfl⟩
      replace H : (impl_readLog.l0 k1 a0 y204 y207 (wrap64 (x4_1 + t202))) = some (r1, r2) := by first | (rw [hy207]; with_reducible exact H) | (have H2_ := (Option.bind_some _ _).symm.trans H; rw [hy207]; with_reducible exact H2_) | (have H2_ := (Option.bind_some _ _).symm.trans H; with_reducible exact H2_) | with_reducible exact H | (rw [hy207]; exact H) | exact H
      have Ny207 := Aside0.mk hy207
      clear hy207
      have H' := Aside0.mk H
      clear H
      obtain ⟨Ao13, co13, eo13⟩ := Kd.R_slice HO_2.out
      subst eo13
      go_wp2_with (first | ((with_reducible refine gate_callee (f := 71) rfl ?_); refine qcall 16 Tryd.func71 rfl #[.string (subs a0 (x4_1 : Int).toNat a0.size), .int .i64 (x2_1.length : Int)] ?_; (with_reducible refine (impl_cutRecord.calls k1 (subs a0 (x4_1 : Int).toNat a0.size) (x2_1.length : Int) t200 t201 t202 _ ?side1 A5.out).mono ?_); (case side1 => exact zz118); rintro e w14 ⟨rfl, hb⟩; refine ⟨_, rfl, ?_⟩; refine qs3 (Kd.R_below (qr HO_2.out) hb) (Kd.R_below (qr HO_3.out) hb) (below_step zz20 hb) ?_; clear HO_2 HO_3 HB; intro HO_2 HO_3 HB; (try clear hb); (try clear hb2); (try clear hk); (try clear hi)) | ((with_reducible refine gate_dst (N := 5) rfl ?_); refine qbox (N := 5) (cs := #[.string (⟨#[]⟩ : ByteArray), .string (⟨#[]⟩ : ByteArray)]) (t := 40) ?_; intro gb203 hg w15 hbox hb; refine qs6 (Kd.R_below (Kd.R_elderB (qr HO_2.out) gb203 (Nat.le_of_eq hg.symm)) hb) (Kd.R_below (qr HO_3.out) hb) (below_step zz20 hb) (hbox) ((zz119 : w.heap.size ≤ gb203)) ((zz119 : w.heap.size ≤ gb203)) ?_; clear HO_2 HO_3 HB; intro HO_2 HO_3 HB BK203 GW203 GE203; clear hb hbox hg; obtain ⟨hcz16_0, hcz16_1, hfz16_0, hfz16_1⟩ := qc2 BK203.out) | ((with_reducible refine gate_builtin (b := .append) (xs := #[.tmp 24, .tmp 26]) rfl ?_); at_builtin; refine Kd.R_append k40 (w0 := w) w.heap.size rfl (.tmp 24) (.tmp 26) 43 40 (.agg #[(.string ⟨#[]⟩), (.string ⟨#[]⟩)]) 32 rfl Tryd.underlying43 info40 rfl (by decide) (by omega) (.slice Ao13 x2_1.length co13) x2_1 (⟨t200, t201⟩ : S40) [.string t200, .string t201] (fun k_ => k_ ≠ gb203) (fun _ => False) rfl zz2 ?aP (fun _ hk => hk.elim) ?aF ?aO ?aB ?aS ?aL ?_; (case aP => exact k40_mkM _ _ _ (⟨t200, t201⟩ : S40)); (case aB => exact zz33); (case aF => exact (fun k_ hk => Kd.freshB (g := gb203) (o := .cells #[.string t200, .string t201] 40 (0, 0)) zz93 k_ hk)); (case aO => exact (by (with_reducible repeat (first | apply Kd.R_alloc | apply Kd.R_drewN | apply Kd.R_drew)); exact Kd.R_mono (Kd.R_far (p := ⟨gb203, 1, none⟩) (Kd.R_far (p := ⟨gb203, 0, none⟩) (Kd.R_mono HO_2.out (fun k_ hk => (⟨hk, hk.2⟩ : _ ∧ k_ ≠ gb203))) (fun _ hk => hk.2) (.string t200)) (fun _ hk => hk.2) (.string t201)) (fun _ hk => hk.1.2))); (case aS => exact (below_size zz33)); (case aL => have := LMc11.out; omega); intro v205 w17 ho hb hg hat; rw [← Ny204.out] at ho; refine qs4 (Kd.R_over' (by (with_reducible repeat (first | apply Kd.R_alloc | apply Kd.R_drewN | apply Kd.R_drew)); exact (Kd.R_mono (Kd.R_far (p := ⟨gb203, 1, none⟩) (Kd.R_far (p := ⟨gb203, 0, none⟩) (Kd.R_types HO_3.out BK203.out (by decide)) (fun _ hk => hk.2) (.string t200)) (fun _ hk => hk.2) (.string t201)) (fun _ h_ => h_.1))) (Kd.R_typed (by (with_reducible repeat (first | apply Kd.R_alloc | apply Kd.R_drewN | apply Kd.R_drew)); exact (Kd.R_mono (Kd.R_far (p := ⟨gb203, 1, none⟩) (Kd.R_far (p := ⟨gb203, 0, none⟩) (Kd.R_mono HO_2.out (fun k_ hk => (⟨hk, hk.2⟩ : _ ∧ k_ ≠ gb203))) (fun _ hk => hk.2) (.string t200)) (fun _ hk => hk.2) (.string t201)) (fun _ h_ => h_.1)))) (by decide) hg) (blk_grown (g := gb203) (o := .cells #[.string t200, .string t201] 40 (0, 0)) zz93 hg (Kd.R_away HO_2.out (fun _ hk => hk.2))) (hb) (ho) ?_; clear HO_3 BK203 HB HO_2; intro HO_3 BK203 HB HO206; clear ho hb hg hat) | ((with_reducible refine gate_builtin (b := .append) (xs := #[.tmp 28, .tmp 30]) rfl ?_); at_builtin; refine Kd.R_append (Kd.int .i64) (w0 := w) w.heap.size rfl (.tmp 28) (.tmp 30) 72 3 (.int .i64 0) 8 rfl Tryd.underlying72 info3 rfl (by decide) (by omega) u3 x3_1 (wrap64 (x4_1 + t202)) [.int .i64 (wrap64 (x4_1 + t202))] (fun _ => True) (fun _ => False) rfl rfl ?aP (fun _ hk => hk.elim) ?aF ?aO ?aB ?aS ?aL ?_; (case aP => exact rfl); (case aB => exact zz33); (case aF => exact (fun _ _ => trivial)); (case aO => exact (qr HO_3.out)); (case aS => exact (below_size zz33)); (case aL => have := LMc12.out; omega); intro v208 w18 ho hb hg hat; rw [← Ny207.out] at ho; refine qs4 (blk_grown (g := gb203) (o := .cells #[.string t200, .string t201] 40 (0, 0)) (qb BK203.out) hg (Kd.R_ne HO_3.out BK203.out (by decide))) (Kd.R_over' (qr HO206.out) (Kd.R_typed (qr HO_3.out)) (by decide) hg) (hb) (ho) ?_; clear BK203 HO206 HB HO_3; intro BK203 HO206 HB HO209; clear ho hb hg hat))
      go_roundg k1
      case measure => have := HK1.out; omega
      case rel => exact ⟨(y204), (y207), (wrap64 (x4_1 + t202)), zz3, H', ⟨zz0⟩, ⟨by (with_reducible repeat (first | apply Kd.R_alloc | apply Kd.R_drewN | apply Kd.R_drew)); exact Kd.R_mono HO206.out (fun _ hk => trivial)⟩, ⟨by (with_reducible repeat (first | apply Kd.R_alloc | apply Kd.R_drewN | apply Kd.R_drew)); exact HO209.out⟩, ⟨zz33⟩⟩

end

section
attribute [local go_sem high] run_add_cat run_slice_cat run_slice_cat_h run_slice_cat_l run_slice_cat_all
/-! ### impl_Log_records: function 41 -/
def impl_Log_records.l0 : Nat → List (S40) → Int → Bool → List Int → Int → Int → ByteArray → ByteArray → Int → Option ((List (S40)) × Bool)
  | 0, _, _, _, _, _, _, _, _, _ => none
  | k + 1, x4, x6, x7, x30, x31, x32, x211000, x211001, x211002 => if x32 < x31 then (if 0 ≤ x32 then (if x32 < (x30.length : Int) then (if x7 = true then (impl_Log_records.l0 k x4 (rd x30 x32) true x30 x31 (wrap64 (x32 + 1)) x211000 x211001 x211002) else (impl_Log_records.l0 k x4 (rd x30 x32) ((rd x30 x32) == (x211000.size : Int)) x30 x31 (wrap64 (x32 + 1)) x211000 x211001 x211002)) else (none)) else (none)) else (if x7 = true then (if x6 = (wrap64 ((x211000.size : Int) + (x211001.size : Int))) then (some (x4, (x211002 == (x4.length : Int)))) else (some (x4, false))) else (some (x4, false)))
def impl_Log_records.f (k : Nat) (a0_0 : ByteArray) (a0_1 : ByteArray) (a0_2 : Int) : Option ((List (S40)) × Bool) := if (wrap64 ((a0_0.size : Int) + (a0_1.size : Int))) > 30000 then (some (([] : List (S40)), false)) else (if a0_0.size + a0_1.size ≤ 9223372036854775807 then ((impl_readLog.f k (cat a0_0 a0_1)).bind fun bt211 => (impl_Log_records.l0 k bt211.1 0 (a0_0.toList == ([] : List UInt8)) bt211.2 (bt211.2.length : Int) 0 a0_0 a0_1 a0_2)) else (none))
set_option maxHeartbeats 8000000 in
set_option maxRecDepth 100000 in
theorem impl_Log_records.calls (k : Nat) (a0_0 : ByteArray) (a0_1 : ByteArray) (a0_2 : Int) (r1 : List (S40)) (r2 : Bool) (w : World) (hG : Gl w) (h : impl_Log_records.f k a0_0 a0_1 a0_2 = some (r1, r2)) :
    Calls Tryd.prog 41 #[.agg #[.string a0_0, .string a0_1, .int .i64 a0_2]] w fun e w' => ∃ v0_ : Value, e = .returned (.tuple #[v0_, .bool r2]) ∧ Kd.R k40 40 w' w.heap.size (fun _ => True) v0_ r1 ∧ Below w.heap.size w w' := by
  have hu26 := Tryd.underlying26
  have HG := Aside0.mk hG
  clear hG
  have HB := Aside0.mk (Below.refl w.heap.size w)
  unfold impl_Log_records.f at h
  have H := h
  clear h
  by_cases c2 : (wrap64 ((a0_0.size : Int) + (a0_1.size : Int))) > 30000
  · rw [if_pos c2] at H
    have c2b0 := decide_eq_true c2
    clear c2
    simp only [Option.some.injEq, Prod.mk.injEq] at H
    obtain ⟨rfl, rfl⟩ := H
    go_enter Tryd.func41, Tryd.ntmps41
    go_wp2_with (first | ((with_reducible refine gate_dst (N := 1) rfl ?_); (try (refine gate_guard (by rfl) ?_; dsimp only)); refine qbox (N := 1) (cs := #[.string a0_0, .string a0_1, .int .i64 a0_2]) (t := 26) ?_; intro gb210 hg w3 hbox hb; refine qs4 (below_step zz20 hb) (hbox) ((zz119 : w.heap.size ≤ gb210)) ((zz119 : w.heap.size ≤ gb210)) ?_; clear HB; intro HB BK210 GW210 GE210; clear hb hbox hg; obtain ⟨hcz4_0, hcz4_1, hcz4_2, hfz4_0, hfz4_1, hfz4_2⟩ := qc3 BK210.out))
    repeat (go_quiet (first | ((with_reducible refine gate_dst (N := 1) rfl ?_); (try (refine gate_guard (by rfl) ?_; dsimp only)); refine qbox (N := 1) (cs := #[.string a0_0, .string a0_1, .int .i64 a0_2]) (t := 26) ?_; intro gb210 hg w3 hbox hb; refine qs4 (below_step zz20 hb) (hbox) ((zz119 : w.heap.size ≤ gb210)) ((zz119 : w.heap.size ≤ gb210)) ?_; clear HB; intro HB BK210 GW210 GE210; clear hb hbox hg; obtain ⟨hcz4_0, hcz4_1, hcz4_2, hfz4_0, hfz4_1, hfz4_2⟩ := qc3 BK210.out)); try go_wp2_with (first | ((with_reducible refine gate_dst (N := 1) rfl ?_); (try (refine gate_guard (by rfl) ?_; dsimp only)); refine qbox (N := 1) (cs := #[.string a0_0, .string a0_1, .int .i64 a0_2]) (t := 26) ?_; intro gb210 hg w3 hbox hb; refine qs4 (below_step zz20 hb) (hbox) ((zz119 : w.heap.size ≤ gb210)) ((zz119 : w.heap.size ≤ gb210)) ?_; clear HB; intro HB BK210 GW210 GE210; clear hb hbox hg; obtain ⟨hcz4_0, hcz4_1, hcz4_2, hfz4_0, hfz4_1, hfz4_2⟩ := qc3 BK210.out)))
    go_ret2
    exact ⟨_, zz7, zz22, zz26⟩
  rw [if_neg c2] at H
  have c2b0 := decide_eq_false c2
  clear c2
  by_cases c5 : a0_0.size + a0_1.size ≤ 9223372036854775807
  rotate_left
  · rw [if_neg c5] at H
    exact absurd H (by simp)
  rw [if_pos c5] at H
  have c5b0 := eq_true c5
  have c5b1 := decide_eq_true c5
  try have c5b2 := eq_false (Nat.not_lt.2 c5)
  clear c5
  replace H := Option.bind_eq_some_iff.mp H
  obtain ⟨⟨t211, t212⟩, A60, H⟩ := H
  (try dsimp only at H)
  have A6 := Aside0.mk A60
  clear A60
  have H' := Aside0.mk H
  clear H
  go_enter Tryd.func41, Tryd.ntmps41
  go_wp2_with (first | ((with_reducible refine gate_dst (N := 1) rfl ?_); (try (refine gate_guard (by rfl) ?_; dsimp only)); refine qbox (N := 1) (cs := #[.string a0_0, .string a0_1, .int .i64 a0_2]) (t := 26) ?_; intro gb210 hg w7 hbox hb; refine qs4 (below_step zz20 hb) (hbox) ((zz119 : w.heap.size ≤ gb210)) ((zz119 : w.heap.size ≤ gb210)) ?_; clear HB; intro HB BK210 GW210 GE210; clear hb hbox hg; obtain ⟨hcz8_0, hcz8_1, hcz8_2, hfz8_0, hfz8_1, hfz8_2⟩ := qc3 BK210.out) | (go_at_call 57; (with_reducible refine (impl_readLog.calls k (cat a0_0 a0_1) t211 t212 _ ?side1 A6.out).mono ?_); (case side1 => exact Gl.below HG.out zz26); rintro e w9 ⟨v213, v215, rfl, ho0, ho1, hb⟩; refine qs4 (Kd.R_lower ho0 (below_size zz26)) (Kd.R_lower ho1 (below_size zz26)) (blk_below (qb BK210.out) hb) (below_step zz26 hb) ?_; clear BK210 HB; intro HO214 HO216 BK210 HB; (try clear hb); (try clear hb2); (try clear hk); (try clear hi); (try clear ho0); (try clear ho1); obtain ⟨hcz10_0, hcz10_1, hcz10_2, hfz10_0, hfz10_1, hfz10_2⟩ := qc3 BK210.out; obtain ⟨Ao11, co11, eo11⟩ := Kd.R_slice HO216.out; subst eo11))
  repeat (go_quiet (first | ((with_reducible refine gate_dst (N := 1) rfl ?_); (try (refine gate_guard (by rfl) ?_; dsimp only)); refine qbox (N := 1) (cs := #[.string a0_0, .string a0_1, .int .i64 a0_2]) (t := 26) ?_; intro gb210 hg w7 hbox hb; refine qs4 (below_step zz20 hb) (hbox) ((zz119 : w.heap.size ≤ gb210)) ((zz119 : w.heap.size ≤ gb210)) ?_; clear HB; intro HB BK210 GW210 GE210; clear hb hbox hg; obtain ⟨hcz8_0, hcz8_1, hcz8_2, hfz8_0, hfz8_1, hfz8_2⟩ := qc3 BK210.out) | (go_at_call 57; (with_reducible refine (impl_readLog.calls k (cat a0_0 a0_1) t211 t212 _ ?side1 A6.out).mono ?_); (case side1 => exact Gl.below HG.out zz26); rintro e w9 ⟨v213, v215, rfl, ho0, ho1, hb⟩; refine qs4 (Kd.R_lower ho0 (below_size zz26)) (Kd.R_lower ho1 (below_size zz26)) (blk_below (qb BK210.out) hb) (below_step zz26 hb) ?_; clear BK210 HB; intro HO214 HO216 BK210 HB; (try clear hb); (try clear hb2); (try clear hk); (try clear hi); (try clear ho0); (try clear ho1); obtain ⟨hcz10_0, hcz10_1, hcz10_2, hfz10_0, hfz10_1, hfz10_2⟩ := qc3 BK210.out; obtain ⟨Ao11, co11, eo11⟩ := Kd.R_slice HO216.out; subst eo11)); try go_wp2_with (first | ((with_reducible refine gate_dst (N := 1) rfl ?_); (try (refine gate_guard (by rfl) ?_; dsimp only)); refine qbox (N := 1) (cs := #[.string a0_0, .string a0_1, .int .i64 a0_2]) (t := 26) ?_; intro gb210 hg w7 hbox hb; refine qs4 (below_step zz20 hb) (hbox) ((zz119 : w.heap.size ≤ gb210)) ((zz119 : w.heap.size ≤ gb210)) ?_; clear HB; intro HB BK210 GW210 GE210; clear hb hbox hg; obtain ⟨hcz8_0, hcz8_1, hcz8_2, hfz8_0, hfz8_1, hfz8_2⟩ := qc3 BK210.out) | (go_at_call 57; (with_reducible refine (impl_readLog.calls k (cat a0_0 a0_1) t211 t212 _ ?side1 A6.out).mono ?_); (case side1 => exact Gl.below HG.out zz26); rintro e w9 ⟨v213, v215, rfl, ho0, ho1, hb⟩; refine qs4 (Kd.R_lower ho0 (below_size zz26)) (Kd.R_lower ho1 (below_size zz26)) (blk_below (qb BK210.out) hb) (below_step zz26 hb) ?_; clear BK210 HB; intro HO214 HO216 BK210 HB; (try clear hb); (try clear hb2); (try clear hk); (try clear hi); (try clear ho0); (try clear ho1); obtain ⟨hcz10_0, hcz10_1, hcz10_2, hfz10_0, hfz10_1, hfz10_2⟩ := qc3 BK210.out; obtain ⟨Ao11, co11, eo11⟩ := Kd.R_slice HO216.out; subst eo11)))
  go_loopg [6, 7, 32] k (fun kq v6 v7 v32 w' => ∃ (x6_1 : Int) (x7_1 : Bool) (x32_1 : Int), v6 = .int .i64 x6_1 ∧ v7 = .bool x7_1 ∧ v32 = .int .i64 x32_1 ∧ Aside0 (impl_Log_records.l0 kq t211 x6_1 x7_1 t212 (t212.length : Int) x32_1 a0_0 a0_1 a0_2 = some (r1, r2)) ∧ Aside0 (kq ≤ k) ∧ Aside0 (Kd.R k40 40 w' w.heap.size (fun _ => True) v213 t211) ∧ Aside0 (Kd.R (Kd.int .i64) 3 w' w.heap.size (fun _ => True) (.slice Ao11 t212.length co11) t212) ∧ Aside0 (w'.heap[gb210]? = some (.cells #[.string a0_0, .string a0_1, .int .i64 a0_2] 26 (0, 0))) ∧ Aside0 (Below w.heap.size w w'))
  case atStart => exact ⟨(0), ((a0_0.toList == ([] : List UInt8))), (0), zz3, zz3, zz3, H', ⟨Nat.le_refl _⟩, ⟨by (with_reducible repeat (first | apply Kd.R_alloc | apply Kd.R_drewN | apply Kd.R_drew)); exact HO214.out⟩, ⟨by (with_reducible repeat (first | apply Kd.R_alloc | apply Kd.R_drewN | apply Kd.R_drew)); exact HO216.out⟩, ⟨zz16⟩, ⟨zz26⟩⟩
  case round =>
    clear H'
    try clear c2
    try clear c2b0
    try clear p2
    try clear c4
    try clear c5
    try clear c5b0
    try clear c5b1
    try clear c5b2
    try clear p6
    try clear hcz10_0
    try clear hcz10_1
    try clear hcz10_2
    try clear hcz4_0
    try clear hcz4_1
    try clear hcz4_2
    try clear hcz8_0
    try clear hcz8_1
    try clear hcz8_2
    try clear hfz10_0
    try clear hfz10_1
    try clear hfz10_2
    try clear hfz4_0
    try clear hfz4_1
    try clear hfz4_2
    try clear hfz8_0
    try clear hfz8_1
    try clear hfz8_2
    obtain ⟨x6_1, x7_1, x32_1, rfl, rfl, rfl, HA, HK1, HO_4, HO_30, BK210, HB⟩ := hrel
    cases gk with
    | zero => exact absurd HA.out (by simp [impl_Log_records.l0])
    | succ k1 =>
      have H := HA.out
      clear HA
      simp only [impl_Log_records.l0] at H
      by_cases c12 : x32_1 < (t212.length : Int)
      rotate_left
      · rw [if_neg c12] at H
        have c12b0 := decide_eq_false c12
        clear c12
        by_cases c17 : x7_1 = true
        rotate_left
        · replace c17 := Bool.eq_false_iff.mpr c17
          subst c17
          rw [if_neg (show ¬ (false = true) by decide)] at H
          simp only [Option.some.injEq, Prod.mk.injEq] at H
          obtain ⟨rfl, rfl⟩ := H
          go_wp2
          repeat (go_quiet (fail); try go_wp2)
          go_ret2
          exact ⟨_, zz7, zz8, zz26⟩
        subst c17
        rw [if_pos rfl] at H
        by_cases c18 : x6_1 = (wrap64 ((a0_0.size : Int) + (a0_1.size : Int)))
        rotate_left
        · rw [if_neg c18] at H
          have c18b0 := beq_eq_false_iff_ne.mpr c18
          have c18b1 := bne_iff_ne.mpr c18
          simp only [Option.some.injEq, Prod.mk.injEq] at H
          obtain ⟨rfl, rfl⟩ := H
          obtain ⟨hcz21_0, hcz21_1, hcz21_2, hfz21_0, hfz21_1, hfz21_2⟩ := qc3 BK210.out
          go_wp2
          repeat (go_quiet (fail); try go_wp2)
          go_ret2
          exact ⟨_, zz7, zz8, zz26⟩
        rw [if_pos c18] at H
        have c18b0 := beq_iff_eq.mpr c18
        have c18b1 := bne_eq_false_iff_eq.mpr c18
        clear c18
        simp only [Option.some.injEq, Prod.mk.injEq] at H
        obtain ⟨rfl, rfl⟩ := H
        obtain ⟨hcz19_0, hcz19_1, hcz19_2, hfz19_0, hfz19_1, hfz19_2⟩ := qc3 BK210.out
        obtain ⟨Ao20, co20, eo20⟩ := Kd.R_slice HO_4.out
        subst eo20
        go_wp2
        repeat (go_quiet (fail); try go_wp2)
        go_ret2
        exact ⟨_, zz7, zz8, zz26⟩
      rw [if_pos c12] at H
      have c12b0 := decide_eq_true c12
      clear c12
      by_cases c13 : 0 ≤ x32_1
      rotate_left
      · rw [if_neg c13] at H
        exact absurd H (by simp)
      rw [if_pos c13] at H
      have c13b0 := decide_eq_true c13
      clear c13
      by_cases c14 : x32_1 < (t212.length : Int)
      rotate_left
      · rw [if_neg c14] at H
        exact absurd H (by simp)
      rw [if_pos c14] at H
      have c14b0 := decide_eq_true c14
      clear c14
      by_cases c15 : x7_1 = true
      · subst c15
        rw [if_pos rfl] at H
        have H' := Aside0.mk H
        clear H
        have p217 : 0 ≤ (x32_1 : Int) := of_decide_eq_true zz4
        have q217 : x32_1 < (t212.length : Int) := of_decide_eq_true zz4
        obtain ⟨ad217, e217, hx217_0⟩ := Kd.at_int (Kd.R_reads' HO_30.out).2.2 x32_1 p217 q217
        cases e217
        replace p217 := eq_true p217
        replace q217 := eq_true q217
        go_wp2
        repeat (go_quiet (fail); try go_wp2)
        go_roundg k1
        case measure => have := HK1.out; omega
        case rel => exact ⟨(rd t212 x32_1), (true), (wrap64 (x32_1 + 1)), zz3, zz3, zz3, H', ⟨zz0⟩, ⟨zz8⟩, ⟨by (with_reducible repeat (first | apply Kd.R_alloc | apply Kd.R_drewN | apply Kd.R_drew)); exact HO_30.out⟩, ⟨zz16⟩, ⟨zz26⟩⟩
      replace c15 := Bool.eq_false_iff.mpr c15
      subst c15
      rw [if_neg (show ¬ (false = true) by decide)] at H
      have H' := Aside0.mk H
      clear H
      have p217 : 0 ≤ (x32_1 : Int) := of_decide_eq_true zz4
      have q217 : x32_1 < (t212.length : Int) := of_decide_eq_true zz4
      obtain ⟨ad217, e217, hx217_0⟩ := Kd.at_int (Kd.R_reads' HO_30.out).2.2 x32_1 p217 q217
      cases e217
      replace p217 := eq_true p217
      replace q217 := eq_true q217
      obtain ⟨hcz16_0, hcz16_1, hcz16_2, hfz16_0, hfz16_1, hfz16_2⟩ := qc3 BK210.out
      go_wp2
      repeat (go_quiet (fail); try go_wp2)
      go_roundg k1
      case measure => have := HK1.out; omega
      case rel => exact ⟨(rd t212 x32_1), (((rd t212 x32_1) == (a0_0.size : Int))), (wrap64 (x32_1 + 1)), zz3, zz3, zz3, H', ⟨zz0⟩, ⟨zz8⟩, ⟨by (with_reducible repeat (first | apply Kd.R_alloc | apply Kd.R_drewN | apply Kd.R_drew)); exact HO_30.out⟩, ⟨zz16⟩, ⟨zz26⟩⟩

end

section
attribute [local go_sem high] run_add_cat run_slice_cat run_slice_cat_h run_slice_cat_l run_slice_cat_all
/-! ### impl_IsValidLog: function 14 -/
def impl_IsValidLog.f (k : Nat) (a0_0 : ByteArray) (a0_1 : ByteArray) (a0_2 : Int) : Option (Bool) := (impl_Log_records.f k a0_0 a0_1 a0_2).bind fun bt219 => (some bt219.2)
set_option maxHeartbeats 8000000 in
set_option maxRecDepth 100000 in
theorem impl_IsValidLog.calls (k : Nat) (a0_0 : ByteArray) (a0_1 : ByteArray) (a0_2 : Int) (r : Bool) (w : World) (hG : Gl w) (h : impl_IsValidLog.f k a0_0 a0_1 a0_2 = some r) :
    Calls Tryd.prog 14 #[.agg #[.string a0_0, .string a0_1, .int .i64 a0_2]] w fun e w' => e = .returned (.bool r) ∧ Below w.heap.size w w' := by
  have hu26 := Tryd.underlying26
  have HG := Aside0.mk hG
  clear hG
  have HB := Aside0.mk (Below.refl w.heap.size w)
  have H : ((impl_Log_records.f k a0_0 a0_1 a0_2).bind fun bt219 => (some bt219.2)) = some r := h
  clear h
  replace H := Option.bind_eq_some_iff.mp H
  obtain ⟨⟨t219, t222⟩, A20, H⟩ := H
  replace H : (some t222) = some r := H
  have A2 := Aside0.mk A20
  clear A20
  obtain rfl := Option.some.inj H
  go_enter Tryd.func14, Tryd.ntmps14
  go_wp2_with (first | ((with_reducible refine gate_dst (N := 1) rfl ?_); refine qbox (N := 1) (cs := #[.string a0_0, .string a0_1, .int .i64 a0_2]) (t := 26) ?_; intro gb218 hg w3 hbox hb; refine qs4 (below_step zz20 hb) (hbox) ((zz119 : w.heap.size ≤ gb218)) ((zz119 : w.heap.size ≤ gb218)) ?_; clear HB; intro HB BK218 GW218 GE218; clear hb hbox hg; obtain ⟨hcz4_0, hcz4_1, hcz4_2, hfz4_0, hfz4_1, hfz4_2⟩ := qc3 BK218.out) | ((with_reducible refine gate_callee (f := 41) rfl ?_); refine qcall 7 Tryd.func41 rfl #[.agg #[.string a0_0, .string a0_1, .int .i64 a0_2]] ?_; (with_reducible refine (impl_Log_records.calls k a0_0 a0_1 a0_2 t219 t222 _ ?side1 A2.out).mono ?_); (case side1 => exact Gl.below HG.out zz38); rintro e w5 ⟨v220, rfl, ho0, hb⟩; refine ⟨_, rfl, ?_⟩; refine qs3 (Kd.R_lower ho0 (below_size zz38)) (blk_below (qb BK218.out) hb) (below_step zz38 hb) ?_; clear BK218 HB; intro HO221 BK218 HB; (try clear hb); (try clear hb2); (try clear hk); (try clear hi); (try clear ho0)))
  go_ret
  exact ⟨zz7, zz38⟩

end

section
attribute [local go_sem high] run_add_cat run_slice_cat run_slice_cat_h run_slice_cat_l run_slice_cat_all
/-! ### laws_FnExactIsValidLog: function 3 -/
end

section
attribute [local go_sem high] run_add_cat run_slice_cat run_slice_cat_h run_slice_cat_l run_slice_cat_all
/-! ### spec_SyncLog: function 17 -/
def spec_SyncLog.f (k : Nat) (a0_0 : ByteArray) (a0_1 : ByteArray) (a0_2 : Int) : Option (ByteArray × ByteArray × Int × Bool) := (spec_l27Log.f k a0_0 a0_1 a0_2).bind fun t235 => (if t235 = true then (if a0_0.size + a0_1.size ≤ 9223372036854775807 then (some (cat a0_0 a0_1, (⟨#[]⟩ : ByteArray), a0_2, true)) else (none)) else (some ((⟨#[]⟩ : ByteArray), (⟨#[]⟩ : ByteArray), 0, false)))
set_option maxHeartbeats 8000000 in
set_option maxRecDepth 100000 in
theorem spec_SyncLog.calls (k : Nat) (a0_0 : ByteArray) (a0_1 : ByteArray) (a0_2 : Int) (r1 : ByteArray) (r2 : ByteArray) (r3 : Int) (r4 : Bool) (w : World) (h : spec_SyncLog.f k a0_0 a0_1 a0_2 = some (r1, r2, r3, r4)) :
    Calls Tryd.prog 17 #[.agg #[.string a0_0, .string a0_1, .int .i64 a0_2]] w fun e w' => e = .returned (.tuple #[.agg #[.string r1, .string r2, .int .i64 r3], .bool r4]) ∧ Below w.heap.size w w' := by
  have hu26 := Tryd.underlying26
  have HB := Aside0.mk (Below.refl w.heap.size w)
  unfold spec_SyncLog.f at h
  have H := h
  clear h
  replace H := Option.bind_eq_some_iff.mp H
  obtain ⟨t235, A20, H⟩ := H
  (try dsimp only at H)
  have A2 := Aside0.mk A20
  clear A20
  by_cases c3 : t235 = true
  rotate_left
  · replace c3 := Bool.eq_false_iff.mpr c3
    subst c3
    rw [if_neg (show ¬ (false = true) by decide)] at H
    simp only [Option.some.injEq, Prod.mk.injEq] at H
    obtain ⟨rfl, rfl, rfl, rfl⟩ := H
    go_enter Tryd.func17, Tryd.ntmps17
    go_wp2_with (first | ((with_reducible refine gate_dst (N := 1) rfl ?_); refine qbox (N := 1) (cs := #[.string a0_0, .string a0_1, .int .i64 a0_2]) (t := 26) ?_; intro gb233 hg w12 hbox hb; refine qs4 (below_step zz20 hb) (hbox) ((zz119 : w.heap.size ≤ gb233)) ((zz119 : w.heap.size ≤ gb233)) ?_; clear HB; intro HB BK233 GW233 GE233; clear hb hbox hg) | ((with_reducible refine gate_dst (N := 2) rfl ?_); refine qbox (N := 2) (cs := #[.string (⟨#[]⟩ : ByteArray), .string (⟨#[]⟩ : ByteArray), .int .i64 0]) (t := 26) ?_; intro gb234 hg w13 hbox hb; refine qs7 (blk_below (qb BK233.out) hb) (below_step zz34 hb) (hbox) ((by rw [hg]; exact (below_size zz34) : w.heap.size ≤ gb234)) ((by rw [hg]; exact (below_size zz34) : w.heap.size ≤ gb234)) ((by rw [hg]; exact Nat.ne_of_lt (blk_lt (qb BK233.out)) : gb233 ≠ gb234)) ((by rw [hg]; exact Nat.ne_of_gt (blk_lt (qb BK233.out)) : gb234 ≠ gb233)) ?_; clear BK233 HB; intro BK233 HB BK234 GW234 GE234 NB233_234 NB234_233; clear hb hbox hg; have hnb14 := NB233_234.out; have hnc14 := NB234_233.out; obtain ⟨hcz15_0, hcz15_1, hcz15_2, hfz15_0, hfz15_1, hfz15_2⟩ := qc3 BK233.out) | ((with_reducible refine gate_callee (f := 40) rfl ?_); refine qcall 5 Tryd.func40 rfl #[.agg #[.string a0_0, .string a0_1, .int .i64 a0_2]] ?_; (with_reducible refine (spec_l27Log.calls k a0_0 a0_1 a0_2 false _ A2.out).mono ?_); rintro e w16 ⟨rfl, hb⟩; refine ⟨_, rfl, ?_⟩; refine qs3 (blk_below (qb BK233.out) hb) (blk_below (qb BK234.out) hb) (below_step zz56 hb) ?_; clear BK233 BK234 HB; intro BK233 BK234 HB; (try clear hb); (try clear hb2); (try clear hk); (try clear hi); obtain ⟨hcz17_0, hcz17_1, hcz17_2, hfz17_0, hfz17_1, hfz17_2⟩ := qc3 BK234.out))
    refine bodyPost_ret (results_ct rfl _ _ gb234 26 #[.string (⟨#[]⟩ : ByteArray), .string (⟨#[]⟩ : ByteArray), .int .i64 0] (0, 0) _ rfl (by (with_reducible repeat (first | refine blk_drewN ?_ _ | refine blk_drew ?_ | refine blk_alloc ?_ _)); refine blk_put (cs := #[.string (⟨#[]⟩ : ByteArray), .string (⟨#[]⟩ : ByteArray), .int .i64 0]) ?_ 2 _ rfl; (with_reducible repeat (first | refine blk_drewN ?_ _ | refine blk_drew ?_ | refine blk_alloc ?_ _)); refine blk_put (cs := #[.string (⟨#[]⟩ : ByteArray), .string (⟨#[]⟩ : ByteArray), .int .i64 0]) ?_ 1 _ rfl; (with_reducible repeat (first | refine blk_drewN ?_ _ | refine blk_drew ?_ | refine blk_alloc ?_ _)); refine blk_put (cs := #[.string (⟨#[]⟩ : ByteArray), .string (⟨#[]⟩ : ByteArray), .int .i64 0]) ?_ 0 _ rfl; (with_reducible repeat (first | refine blk_drewN ?_ _ | refine blk_drew ?_ | refine blk_alloc ?_ _)); exact BK234.out) Tryd.underlying26 rfl (by kernel_rfl)) rfl ?_
    exact ⟨zz7, zz56⟩
  subst c3
  rw [if_pos rfl] at H
  by_cases c4 : a0_0.size + a0_1.size ≤ 9223372036854775807
  rotate_left
  · rw [if_neg c4] at H
    exact absurd H (by simp)
  rw [if_pos c4] at H
  have c4b0 := eq_true c4
  have c4b1 := decide_eq_true c4
  try have c4b2 := eq_false (Nat.not_lt.2 c4)
  clear c4
  simp only [Option.some.injEq, Prod.mk.injEq] at H
  obtain ⟨rfl, rfl, rfl, rfl⟩ := H
  go_enter Tryd.func17, Tryd.ntmps17
  go_wp2_with (first | ((with_reducible refine gate_dst (N := 1) rfl ?_); refine qbox (N := 1) (cs := #[.string a0_0, .string a0_1, .int .i64 a0_2]) (t := 26) ?_; intro gb233 hg w5 hbox hb; refine qs4 (below_step zz20 hb) (hbox) ((zz119 : w.heap.size ≤ gb233)) ((zz119 : w.heap.size ≤ gb233)) ?_; clear HB; intro HB BK233 GW233 GE233; clear hb hbox hg) | ((with_reducible refine gate_dst (N := 2) rfl ?_); refine qbox (N := 2) (cs := #[.string (⟨#[]⟩ : ByteArray), .string (⟨#[]⟩ : ByteArray), .int .i64 0]) (t := 26) ?_; intro gb234 hg w6 hbox hb; refine qs7 (blk_below (qb BK233.out) hb) (below_step zz34 hb) (hbox) ((by rw [hg]; exact (below_size zz34) : w.heap.size ≤ gb234)) ((by rw [hg]; exact (below_size zz34) : w.heap.size ≤ gb234)) ((by rw [hg]; exact Nat.ne_of_lt (blk_lt (qb BK233.out)) : gb233 ≠ gb234)) ((by rw [hg]; exact Nat.ne_of_gt (blk_lt (qb BK233.out)) : gb234 ≠ gb233)) ?_; clear BK233 HB; intro BK233 HB BK234 GW234 GE234 NB233_234 NB234_233; clear hb hbox hg; have hnb7 := NB233_234.out; have hnc7 := NB234_233.out; obtain ⟨hcz8_0, hcz8_1, hcz8_2, hfz8_0, hfz8_1, hfz8_2⟩ := qc3 BK233.out) | ((with_reducible refine gate_callee (f := 40) rfl ?_); refine qcall 5 Tryd.func40 rfl #[.agg #[.string a0_0, .string a0_1, .int .i64 a0_2]] ?_; (with_reducible refine (spec_l27Log.calls k a0_0 a0_1 a0_2 true _ A2.out).mono ?_); rintro e w9 ⟨rfl, hb⟩; refine ⟨_, rfl, ?_⟩; refine qs3 (blk_below (qb BK233.out) hb) (blk_below (qb BK234.out) hb) (below_step zz56 hb) ?_; clear BK233 BK234 HB; intro BK233 BK234 HB; (try clear hb); (try clear hb2); (try clear hk); (try clear hi); obtain ⟨hcz10_0, hcz10_1, hcz10_2, hfz10_0, hfz10_1, hfz10_2⟩ := qc3 BK233.out; obtain ⟨hcz11_0, hcz11_1, hcz11_2, hfz11_0, hfz11_1, hfz11_2⟩ := qc3 BK234.out))
  refine bodyPost_ret (results_ct rfl _ _ gb234 26 #[.string (cat a0_0 a0_1), .string (⟨#[]⟩ : ByteArray), .int .i64 a0_2] (0, 0) _ rfl (by (with_reducible repeat (first | refine blk_drewN ?_ _ | refine blk_drew ?_ | refine blk_alloc ?_ _)); refine blk_put (cs := #[.string (cat a0_0 a0_1), .string (⟨#[]⟩ : ByteArray), .int .i64 0]) ?_ 2 _ rfl; (with_reducible repeat (first | refine blk_drewN ?_ _ | refine blk_drew ?_ | refine blk_alloc ?_ _)); refine blk_put (cs := #[.string (cat a0_0 a0_1), .string (⟨#[]⟩ : ByteArray), .int .i64 0]) ?_ 1 _ rfl; (with_reducible repeat (first | refine blk_drewN ?_ _ | refine blk_drew ?_ | refine blk_alloc ?_ _)); refine blk_put (cs := #[.string (⟨#[]⟩ : ByteArray), .string (⟨#[]⟩ : ByteArray), .int .i64 0]) ?_ 0 _ rfl; (with_reducible repeat (first | refine blk_drewN ?_ _ | refine blk_drew ?_ | refine blk_alloc ?_ _)); exact BK234.out) Tryd.underlying26 rfl (by kernel_rfl)) rfl ?_
  exact ⟨zz7, zz56⟩

end

section
attribute [local go_sem high] run_add_cat run_slice_cat run_slice_cat_h run_slice_cat_l run_slice_cat_all
/-! ### impl_SyncLog: function 18 -/
def impl_SyncLog.f (k : Nat) (a0_0 : ByteArray) (a0_1 : ByteArray) (a0_2 : Int) : Option (ByteArray × ByteArray × Int × Bool) := (impl_IsValidLog.f k a0_0 a0_1 a0_2).bind fun t238 => (if t238 = true then (if a0_0.size + a0_1.size ≤ 9223372036854775807 then (some (cat a0_0 a0_1, (⟨#[]⟩ : ByteArray), a0_2, true)) else (none)) else (some ((⟨#[]⟩ : ByteArray), (⟨#[]⟩ : ByteArray), 0, false)))
set_option maxHeartbeats 8000000 in
set_option maxRecDepth 100000 in
theorem impl_SyncLog.calls (k : Nat) (a0_0 : ByteArray) (a0_1 : ByteArray) (a0_2 : Int) (r1 : ByteArray) (r2 : ByteArray) (r3 : Int) (r4 : Bool) (w : World) (hG : Gl w) (h : impl_SyncLog.f k a0_0 a0_1 a0_2 = some (r1, r2, r3, r4)) :
    Calls Tryd.prog 18 #[.agg #[.string a0_0, .string a0_1, .int .i64 a0_2]] w fun e w' => e = .returned (.tuple #[.agg #[.string r1, .string r2, .int .i64 r3], .bool r4]) ∧ Below w.heap.size w w' := by
  have hu26 := Tryd.underlying26
  have HG := Aside0.mk hG
  clear hG
  have HB := Aside0.mk (Below.refl w.heap.size w)
  unfold impl_SyncLog.f at h
  have H := h
  clear h
  replace H := Option.bind_eq_some_iff.mp H
  obtain ⟨t238, A20, H⟩ := H
  (try dsimp only at H)
  have A2 := Aside0.mk A20
  clear A20
  by_cases c3 : t238 = true
  rotate_left
  · replace c3 := Bool.eq_false_iff.mpr c3
    subst c3
    rw [if_neg (show ¬ (false = true) by decide)] at H
    simp only [Option.some.injEq, Prod.mk.injEq] at H
    obtain ⟨rfl, rfl, rfl, rfl⟩ := H
    go_enter Tryd.func18, Tryd.ntmps18
    go_wp2_with (first | ((with_reducible refine gate_dst (N := 1) rfl ?_); refine qbox (N := 1) (cs := #[.string a0_0, .string a0_1, .int .i64 a0_2]) (t := 26) ?_; intro gb236 hg w12 hbox hb; refine qs4 (below_step zz20 hb) (hbox) ((zz119 : w.heap.size ≤ gb236)) ((zz119 : w.heap.size ≤ gb236)) ?_; clear HB; intro HB BK236 GW236 GE236; clear hb hbox hg) | ((with_reducible refine gate_dst (N := 2) rfl ?_); refine qbox (N := 2) (cs := #[.string (⟨#[]⟩ : ByteArray), .string (⟨#[]⟩ : ByteArray), .int .i64 0]) (t := 26) ?_; intro gb237 hg w13 hbox hb; refine qs7 (blk_below (qb BK236.out) hb) (below_step zz35 hb) (hbox) ((by rw [hg]; exact (below_size zz35) : w.heap.size ≤ gb237)) ((by rw [hg]; exact (below_size zz35) : w.heap.size ≤ gb237)) ((by rw [hg]; exact Nat.ne_of_lt (blk_lt (qb BK236.out)) : gb236 ≠ gb237)) ((by rw [hg]; exact Nat.ne_of_gt (blk_lt (qb BK236.out)) : gb237 ≠ gb236)) ?_; clear BK236 HB; intro BK236 HB BK237 GW237 GE237 NB236_237 NB237_236; clear hb hbox hg; have hnb14 := NB236_237.out; have hnc14 := NB237_236.out; obtain ⟨hcz15_0, hcz15_1, hcz15_2, hfz15_0, hfz15_1, hfz15_2⟩ := qc3 BK236.out) | ((with_reducible refine gate_callee (f := 14) rfl ?_); refine qcall 5 Tryd.func14 rfl #[.agg #[.string a0_0, .string a0_1, .int .i64 a0_2]] ?_; (with_reducible refine (impl_IsValidLog.calls k a0_0 a0_1 a0_2 false _ ?side1 A2.out).mono ?_); (case side1 => exact Gl.below HG.out zz54); rintro e w16 ⟨rfl, hb⟩; refine ⟨_, rfl, ?_⟩; refine qs3 (blk_below (qb BK236.out) hb) (blk_below (qb BK237.out) hb) (below_step zz54 hb) ?_; clear BK236 BK237 HB; intro BK236 BK237 HB; (try clear hb); (try clear hb2); (try clear hk); (try clear hi); obtain ⟨hcz17_0, hcz17_1, hcz17_2, hfz17_0, hfz17_1, hfz17_2⟩ := qc3 BK237.out))
    refine bodyPost_ret (results_ct rfl _ _ gb237 26 #[.string (⟨#[]⟩ : ByteArray), .string (⟨#[]⟩ : ByteArray), .int .i64 0] (0, 0) _ rfl (by (with_reducible repeat (first | refine blk_drewN ?_ _ | refine blk_drew ?_ | refine blk_alloc ?_ _)); refine blk_put (cs := #[.string (⟨#[]⟩ : ByteArray), .string (⟨#[]⟩ : ByteArray), .int .i64 0]) ?_ 2 _ rfl; (with_reducible repeat (first | refine blk_drewN ?_ _ | refine blk_drew ?_ | refine blk_alloc ?_ _)); refine blk_put (cs := #[.string (⟨#[]⟩ : ByteArray), .string (⟨#[]⟩ : ByteArray), .int .i64 0]) ?_ 1 _ rfl; (with_reducible repeat (first | refine blk_drewN ?_ _ | refine blk_drew ?_ | refine blk_alloc ?_ _)); refine blk_put (cs := #[.string (⟨#[]⟩ : ByteArray), .string (⟨#[]⟩ : ByteArray), .int .i64 0]) ?_ 0 _ rfl; (with_reducible repeat (first | refine blk_drewN ?_ _ | refine blk_drew ?_ | refine blk_alloc ?_ _)); exact BK237.out) Tryd.underlying26 rfl (by kernel_rfl)) rfl ?_
    exact ⟨zz7, zz54⟩
  subst c3
  rw [if_pos rfl] at H
  by_cases c4 : a0_0.size + a0_1.size ≤ 9223372036854775807
  rotate_left
  · rw [if_neg c4] at H
    exact absurd H (by simp)
  rw [if_pos c4] at H
  have c4b0 := eq_true c4
  have c4b1 := decide_eq_true c4
  try have c4b2 := eq_false (Nat.not_lt.2 c4)
  clear c4
  simp only [Option.some.injEq, Prod.mk.injEq] at H
  obtain ⟨rfl, rfl, rfl, rfl⟩ := H
  go_enter Tryd.func18, Tryd.ntmps18
  go_wp2_with (first | ((with_reducible refine gate_dst (N := 1) rfl ?_); refine qbox (N := 1) (cs := #[.string a0_0, .string a0_1, .int .i64 a0_2]) (t := 26) ?_; intro gb236 hg w5 hbox hb; refine qs4 (below_step zz20 hb) (hbox) ((zz119 : w.heap.size ≤ gb236)) ((zz119 : w.heap.size ≤ gb236)) ?_; clear HB; intro HB BK236 GW236 GE236; clear hb hbox hg) | ((with_reducible refine gate_dst (N := 2) rfl ?_); refine qbox (N := 2) (cs := #[.string (⟨#[]⟩ : ByteArray), .string (⟨#[]⟩ : ByteArray), .int .i64 0]) (t := 26) ?_; intro gb237 hg w6 hbox hb; refine qs7 (blk_below (qb BK236.out) hb) (below_step zz35 hb) (hbox) ((by rw [hg]; exact (below_size zz35) : w.heap.size ≤ gb237)) ((by rw [hg]; exact (below_size zz35) : w.heap.size ≤ gb237)) ((by rw [hg]; exact Nat.ne_of_lt (blk_lt (qb BK236.out)) : gb236 ≠ gb237)) ((by rw [hg]; exact Nat.ne_of_gt (blk_lt (qb BK236.out)) : gb237 ≠ gb236)) ?_; clear BK236 HB; intro BK236 HB BK237 GW237 GE237 NB236_237 NB237_236; clear hb hbox hg; have hnb7 := NB236_237.out; have hnc7 := NB237_236.out; obtain ⟨hcz8_0, hcz8_1, hcz8_2, hfz8_0, hfz8_1, hfz8_2⟩ := qc3 BK236.out) | ((with_reducible refine gate_callee (f := 14) rfl ?_); refine qcall 5 Tryd.func14 rfl #[.agg #[.string a0_0, .string a0_1, .int .i64 a0_2]] ?_; (with_reducible refine (impl_IsValidLog.calls k a0_0 a0_1 a0_2 true _ ?side1 A2.out).mono ?_); (case side1 => exact Gl.below HG.out zz54); rintro e w9 ⟨rfl, hb⟩; refine ⟨_, rfl, ?_⟩; refine qs3 (blk_below (qb BK236.out) hb) (blk_below (qb BK237.out) hb) (below_step zz54 hb) ?_; clear BK236 BK237 HB; intro BK236 BK237 HB; (try clear hb); (try clear hb2); (try clear hk); (try clear hi); obtain ⟨hcz10_0, hcz10_1, hcz10_2, hfz10_0, hfz10_1, hfz10_2⟩ := qc3 BK236.out; obtain ⟨hcz11_0, hcz11_1, hcz11_2, hfz11_0, hfz11_1, hfz11_2⟩ := qc3 BK237.out))
  refine bodyPost_ret (results_ct rfl _ _ gb237 26 #[.string (cat a0_0 a0_1), .string (⟨#[]⟩ : ByteArray), .int .i64 a0_2] (0, 0) _ rfl (by (with_reducible repeat (first | refine blk_drewN ?_ _ | refine blk_drew ?_ | refine blk_alloc ?_ _)); refine blk_put (cs := #[.string (cat a0_0 a0_1), .string (⟨#[]⟩ : ByteArray), .int .i64 0]) ?_ 2 _ rfl; (with_reducible repeat (first | refine blk_drewN ?_ _ | refine blk_drew ?_ | refine blk_alloc ?_ _)); refine blk_put (cs := #[.string (cat a0_0 a0_1), .string (⟨#[]⟩ : ByteArray), .int .i64 0]) ?_ 1 _ rfl; (with_reducible repeat (first | refine blk_drewN ?_ _ | refine blk_drew ?_ | refine blk_alloc ?_ _)); refine blk_put (cs := #[.string (⟨#[]⟩ : ByteArray), .string (⟨#[]⟩ : ByteArray), .int .i64 0]) ?_ 0 _ rfl; (with_reducible repeat (first | refine blk_drewN ?_ _ | refine blk_drew ?_ | refine blk_alloc ?_ _)); exact BK237.out) Tryd.underlying26 rfl (by kernel_rfl)) rfl ?_
  exact ⟨zz7, zz54⟩

end

section
attribute [local go_sem high] run_add_cat run_slice_cat run_slice_cat_h run_slice_cat_l run_slice_cat_all
/-! ### laws_eqLog: function 19 -/
end

end Go.Proofs.YtokmidpeeejahaaDoor.G

-- Written by a program of this session (wip/pd.py), which calls the kit's print; externals' contracts by hand.
namespace Go.Proofs.YtokmidpeeejahaaDoor.G
open Go.Proofs.YtokmidpeeejahaaDoorQ
open Go.RowKit Go.Proofs.YtokmidpeeejahaaDoorW.PrintWords Go.Proofs.YtokmidpeeejahaaDoorW.PrintLast Go.Proofs.YtokmidpeeejahaaDoorW.PrintMore
attribute [local go_sem] max2_int min2_int max_two min_two max_three min_three max_four min_four   -- for this text's walks alone
set_option linter.unusedVariables false
set_option linter.unusedSimpArgs false

section
attribute [local go_sem high] run_add_cat run_slice_cat run_slice_cat_h run_slice_cat_l run_slice_cat_all
/-! ### laws_FnExactSyncLog: function 5 -/
end

section
attribute [local go_sem high] run_add_cat run_slice_cat run_slice_cat_h run_slice_cat_l run_slice_cat_all
/-! ### laws_szLogRecord: function 20 -/
end

section
attribute [local go_sem high] run_add_cat run_slice_cat run_slice_cat_h run_slice_cat_l run_slice_cat_all
/-! ### spec_AppendRecord: function 21 -/
def spec_AppendRecord.j0 : Nat → Bool → ByteArray → ByteArray → Int → ByteArray → ByteArray → Option (ByteArray × ByteArray × Int × Int)
  | 0, _, _, _, _, _, _ => none
  | k + 1, x13, x262000, x262001, x262002, x263000, x263001 => if x13 = true then (some (x262000, x262001, x262002, 1)) else (if x262002 = 60 then (some (x262000, x262001, x262002, 2)) else ((spec_l27Line.f k x262002 x263000 x263001).bind fun t266 => (if x262001.size + t266.size ≤ 9223372036854775807 then (some (x262000, cat x262001 t266, wrap64 (x262002 + 1), 0)) else (none))))
def spec_AppendRecord.f (k : Nat) (a0_0 : ByteArray) (a0_1 : ByteArray) (a0_2 : Int) (a1_0 : ByteArray) (a1_1 : ByteArray) : Option (ByteArray × ByteArray × Int × Int) := (spec_l27Log.f k a0_0 a0_1 a0_2).bind fun t264 => (if t264 = true then ((spec_l27Good.f k a1_0 a1_1).bind fun t265 => (spec_AppendRecord.j0 k (!t265) a0_0 a0_1 a0_2 a1_0 a1_1)) else (spec_AppendRecord.j0 k true a0_0 a0_1 a0_2 a1_0 a1_1))
def spec_AppendRecord.T5 : Bool × List (List Nat × List Nat) := (true, [([], []), ([0], [0]), ([], []), ([2], [2]), ([], []), ([3, 4], [3, 4]), ([1, 5], [1, 5]), ([0, 1, 2, 3, 4, 5, 6], []), ([7, 6, 5, 0, 1, 2, 3, 4, 5, 6], [6, 7])])
def spec_AppendRecord.B5 : List Nat := [0, 1, 0, 4, 0, 28, 63, 127, 255]
theorem spec_AppendRecord.tab5 : rtab .any (opsOf Tryd.f21 5) = spec_AppendRecord.T5 := by kernel_rfl
theorem spec_AppendRecord.bits5 : waitsOk spec_AppendRecord.T5.2 spec_AppendRecord.B5 = true := by kernel_rfl
set_option maxHeartbeats 8000000 in
set_option maxRecDepth 100000 in
theorem spec_AppendRecord.calls (k : Nat) (a0_0 : ByteArray) (a0_1 : ByteArray) (a0_2 : Int) (a1_0 : ByteArray) (a1_1 : ByteArray) (r1 : ByteArray) (r2 : ByteArray) (r3 : Int) (r4 : Int) (w : World) (h : spec_AppendRecord.f k a0_0 a0_1 a0_2 a1_0 a1_1 = some (r1, r2, r3, r4)) :
    Calls Tryd.prog 21 #[.agg #[.string a0_0, .string a0_1, .int .i64 a0_2], .agg #[.string a1_0, .string a1_1]] w fun e w' => e = .returned (.tuple #[.agg #[.string r1, .string r2, .int .i64 r3], .int .i64 r4]) ∧ Below w.heap.size w w' := by
  have hu26 := Tryd.underlying26
  have hu40 := Tryd.underlying40
  have HB := Aside0.mk (Below.refl w.heap.size w)
  unfold spec_AppendRecord.f at h
  have H := h
  clear h
  have HC3 := Aside0.mk H
  clear H
  go_enter Tryd.func21, Tryd.ntmps21
  go_upto_region 1 with (first | ((with_reducible refine gate_dst (N := 2) rfl ?_); refine qbox (N := 2) (cs := #[.string a0_0, .string a0_1, .int .i64 a0_2]) (t := 26) ?_; intro gb261 hg w4 hbox hb; refine qs4 (below_step zz20 hb) (hbox) ((zz119 : w.heap.size ≤ gb261)) ((zz119 : w.heap.size ≤ gb261)) ?_; clear HB; intro HB BK261 GW261 GE261; clear hb hbox hg) | ((with_reducible refine gate_dst (N := 3) rfl ?_); refine qbox (N := 3) (cs := #[.string a1_0, .string a1_1]) (t := 40) ?_; intro gb262 hg w5 hbox hb; refine qs7 (blk_below (qb BK261.out) hb) (below_step zz40 hb) (hbox) ((by rw [hg]; exact (below_size zz40) : w.heap.size ≤ gb262)) ((by rw [hg]; exact (below_size zz40) : w.heap.size ≤ gb262)) ((by rw [hg]; exact Nat.ne_of_lt (blk_lt (qb BK261.out)) : gb261 ≠ gb262)) ((by rw [hg]; exact Nat.ne_of_gt (blk_lt (qb BK261.out)) : gb262 ≠ gb261)) ?_; clear BK261 HB; intro BK261 HB BK262 GW262 GE262 NB261_262 NB262_261; clear hb hbox hg) | ((with_reducible refine gate_dst (N := 4) rfl ?_); refine qbox (N := 4) (cs := #[.string (⟨#[]⟩ : ByteArray), .string (⟨#[]⟩ : ByteArray), .int .i64 0]) (t := 26) ?_; intro gb263 hg w6 hbox hb; refine qs10 (blk_below (qb BK261.out) hb) (blk_below (qb BK262.out) hb) (below_step zz58 hb) (hbox) ((by rw [hg]; exact (below_size zz58) : w.heap.size ≤ gb263)) ((by rw [hg]; exact (below_size zz58) : w.heap.size ≤ gb263)) ((by rw [hg]; exact Nat.ne_of_lt (blk_lt (qb BK261.out)) : gb261 ≠ gb263)) ((by rw [hg]; exact Nat.ne_of_gt (blk_lt (qb BK261.out)) : gb263 ≠ gb261)) ((by rw [hg]; exact Nat.ne_of_lt (blk_lt (qb BK262.out)) : gb262 ≠ gb263)) ((by rw [hg]; exact Nat.ne_of_gt (blk_lt (qb BK262.out)) : gb263 ≠ gb262)) ?_; clear BK261 BK262 HB; intro BK261 BK262 HB BK263 GW263 GE263 NB261_263 NB263_261 NB262_263 NB263_262; clear hb hbox hg))
  (try simp only [Act.put, List.setIfInBounds_toArray, List.set_cons_zero, List.set_cons_succ])
  go_cut [13] (fun v13 wc => ∃ (kq : Nat) (x13_2 : Bool), v13 = .bool x13_2 ∧ Aside0 (spec_AppendRecord.j0 kq x13_2 a0_0 a0_1 a0_2 a1_0 a1_1 = some (r1, r2, r3, r4)) ∧ Aside0 (kq ≤ k) ∧ Aside0 (wc.heap[gb261]? = some (.cells #[.string a0_0, .string a0_1, .int .i64 a0_2] 26 (0, 0))) ∧ Aside0 (wc.heap[gb262]? = some (.cells #[.string a1_0, .string a1_1] 40 (0, 0))) ∧ Aside0 (wc.heap[gb263]? = some (.cells #[.string (⟨#[]⟩ : ByteArray), .string (⟨#[]⟩ : ByteArray), .int .i64 0] 26 (0, 0))) ∧ Aside0 (Below w.heap.size w wc))
  case first =>
    have H := HC3.out
    clear HC3
    replace H := Option.bind_eq_some_iff.mp H
    obtain ⟨t264, A70, H⟩ := H
    (try dsimp only at H)
    have A7 := Aside0.mk A70
    clear A70
    by_cases c8 : t264 = true
    rotate_left
    · replace c8 := Bool.eq_false_iff.mpr c8
      subst c8
      rw [if_neg (show ¬ (false = true) by decide)] at H
      have H' := Aside0.mk H
      clear H
      have hnb17 := NB261_262.out
      have hnc17 := NB262_261.out
      have hnb18 := NB261_263.out
      have hnc18 := NB263_261.out
      obtain ⟨hcz19_0, hcz19_1, hcz19_2, hfz19_0, hfz19_1, hfz19_2⟩ := qc3 BK261.out
      go_wp2_with (first | ((with_reducible refine gate_callee (f := 40) rfl ?_); refine qcall 7 Tryd.func40 rfl #[.agg #[.string a0_0, .string a0_1, .int .i64 a0_2]] ?_; (with_reducible refine (spec_l27Log.calls k a0_0 a0_1 a0_2 false _ A7.out).mono ?_); rintro e w20 ⟨rfl, hb⟩; refine ⟨_, rfl, ?_⟩; refine qs4 (blk_below (qb BK261.out) hb) (blk_below (qb BK262.out) hb) (blk_below (qb BK263.out) hb) (below_step zz69 hb) ?_; clear BK261 BK262 BK263 HB; intro BK261 BK262 BK263 HB; (try clear hb); (try clear hb2); (try clear hk); (try clear hi)))
      go_meet
      case rel => exact ⟨_, (true), zz3, H', ⟨zz1⟩, ⟨by (with_reducible repeat (first | refine blk_drewN ?_ _ | refine blk_drew ?_ | refine blk_alloc ?_ _)); exact BK261.out⟩, ⟨by (with_reducible repeat (first | refine blk_drewN ?_ _ | refine blk_drew ?_ | refine blk_alloc ?_ _)); exact BK262.out⟩, ⟨by (with_reducible repeat (first | refine blk_drewN ?_ _ | refine blk_drew ?_ | refine blk_alloc ?_ _)); exact BK263.out⟩, ⟨zz69⟩⟩
    subst c8
    rw [if_pos rfl] at H
    replace H := Option.bind_eq_some_iff.mp H
    obtain ⟨t265, A90, H⟩ := H
    (try dsimp only at H)
    have A9 := Aside0.mk A90
    clear A90
    have H' := Aside0.mk H
    clear H
    have hnb10 := NB261_262.out
    have hnc10 := NB262_261.out
    have hnb11 := NB261_263.out
    have hnc11 := NB263_261.out
    obtain ⟨hcz12_0, hcz12_1, hcz12_2, hfz12_0, hfz12_1, hfz12_2⟩ := qc3 BK261.out
    go_wp2_with (first | ((with_reducible refine gate_callee (f := 40) rfl ?_); refine qcall 7 Tryd.func40 rfl #[.agg #[.string a0_0, .string a0_1, .int .i64 a0_2]] ?_; (with_reducible refine (spec_l27Log.calls k a0_0 a0_1 a0_2 true _ A7.out).mono ?_); rintro e w13 ⟨rfl, hb⟩; refine ⟨_, rfl, ?_⟩; refine qs4 (blk_below (qb BK261.out) hb) (blk_below (qb BK262.out) hb) (blk_below (qb BK263.out) hb) (below_step zz69 hb) ?_; clear BK261 BK262 BK263 HB; intro BK261 BK262 BK263 HB; (try clear hb); (try clear hb2); (try clear hk); (try clear hi); have hnb14 := NB262_263.out; have hnc14 := NB263_262.out; obtain ⟨hcz15_0, hcz15_1, hfz15_0, hfz15_1⟩ := qc2 BK262.out) | (go_at_call 44; (with_reducible refine (spec_l27Good.calls k a1_0 a1_1 t265 _ A9.out).mono ?_); rintro e w16 ⟨rfl, hb⟩; refine qs4 (blk_below (qb BK261.out) hb) (blk_below (qb BK262.out) hb) (blk_below (qb BK263.out) hb) (below_step zz69 hb) ?_; clear BK261 BK262 BK263 HB; intro BK261 BK262 BK263 HB; (try clear hb); (try clear hb2); (try clear hk); (try clear hi)))
    go_meet
    case rel => exact ⟨_, (!t265), zz3, H', ⟨zz1⟩, ⟨by (with_reducible repeat (first | refine blk_drewN ?_ _ | refine blk_drew ?_ | refine blk_alloc ?_ _)); exact BK261.out⟩, ⟨by (with_reducible repeat (first | refine blk_drewN ?_ _ | refine blk_drew ?_ | refine blk_alloc ?_ _)); exact BK262.out⟩, ⟨by (with_reducible repeat (first | refine blk_drewN ?_ _ | refine blk_drew ?_ | refine blk_alloc ?_ _)); exact BK263.out⟩, ⟨zz69⟩⟩
  case rest =>
    clear HC3
    try clear c1
    try clear c2
    try clear p2
    try clear c4
    try clear c8
    try clear c10
    try clear c11
    try clear c14
    try clear c17
    try clear c18
    try clear hcz12_0
    try clear hcz12_1
    try clear hcz12_2
    try clear hcz15_0
    try clear hcz15_1
    try clear hcz19_0
    try clear hcz19_1
    try clear hcz19_2
    try clear hfz12_0
    try clear hfz12_1
    try clear hfz12_2
    try clear hfz15_0
    try clear hfz15_1
    try clear hfz19_0
    try clear hfz19_1
    try clear hfz19_2
    obtain ⟨kq, x13_2, rfl, HA, HJ2, BK261, BK262, BK263, HB⟩ := hcut
    cases kq with
    | zero => exact absurd HA.out (by simp [spec_AppendRecord.j0])
    | succ kj2 =>
      have H := HA.out
      clear HA
      simp only [spec_AppendRecord.j0] at H
      by_cases c21 : x13_2 = true
      · subst c21
        rw [if_pos rfl] at H
        simp only [Option.some.injEq, Prod.mk.injEq] at H
        obtain ⟨rfl, rfl, rfl, rfl⟩ := H
        have hnb22 := NB261_262.out
        have hnc22 := NB262_261.out
        have hnb23 := NB261_263.out
        have hnc23 := NB263_261.out
        obtain ⟨hcz24_0, hcz24_1, hcz24_2, hfz24_0, hfz24_1, hfz24_2⟩ := qc3 BK261.out
        have hnb25 := NB263_262.out
        have hnc25 := NB262_263.out
        obtain ⟨hcz26_0, hcz26_1, hcz26_2, hfz26_0, hfz26_1, hfz26_2⟩ := qc3 BK263.out
        go_wp2
        refine bodyPost_ret (results_ct rfl _ _ gb263 26 #[.string a0_0, .string a0_1, .int .i64 a0_2] (0, 0) _ rfl zz115 Tryd.underlying26 rfl (by kernel_rfl)) rfl ?_
        exact ⟨zz7, zz69⟩
      replace c21 := Bool.eq_false_iff.mpr c21
      subst c21
      rw [if_neg (show ¬ (false = true) by decide)] at H
      by_cases c27 : a0_2 = 60
      · rw [if_pos c27] at H
        have c27b0 := beq_iff_eq.mpr c27
        have c27b1 := bne_eq_false_iff_eq.mpr c27
        clear c27
        simp only [Option.some.injEq, Prod.mk.injEq] at H
        obtain ⟨rfl, rfl, rfl, rfl⟩ := H
        have hnb28 := NB261_262.out
        have hnc28 := NB262_261.out
        have hnb29 := NB261_263.out
        have hnc29 := NB263_261.out
        obtain ⟨hcz30_0, hcz30_1, hcz30_2, hfz30_0, hfz30_1, hfz30_2⟩ := qc3 BK261.out
        have hnb31 := NB263_262.out
        have hnc31 := NB262_263.out
        obtain ⟨hcz32_0, hcz32_1, hcz32_2, hfz32_0, hfz32_1, hfz32_2⟩ := qc3 BK263.out
        go_wp2
        refine bodyPost_ret (results_ct rfl _ _ gb263 26 #[.string a0_0, .string a0_1, .int .i64 a0_2] (0, 0) _ rfl zz115 Tryd.underlying26 rfl (by kernel_rfl)) rfl ?_
        exact ⟨zz7, zz69⟩
      rw [if_neg c27] at H
      have c27b0 := beq_eq_false_iff_ne.mpr c27
      have c27b1 := bne_iff_ne.mpr c27
      replace H := Option.bind_eq_some_iff.mp H
      obtain ⟨t266, A330, H⟩ := H
      (try dsimp only at H)
      have A33 := Aside0.mk A330
      clear A330
      by_cases c34 : a0_1.size + t266.size ≤ 9223372036854775807
      rotate_left
      · rw [if_neg c34] at H
        exact absurd H (by simp)
      rw [if_pos c34] at H
      have c34b0 := eq_true c34
      have c34b1 := decide_eq_true c34
      try have c34b2 := eq_false (Nat.not_lt.2 c34)
      clear c34
      simp only [Option.some.injEq, Prod.mk.injEq] at H
      obtain ⟨rfl, rfl, rfl, rfl⟩ := H
      have hnb35 := NB261_262.out
      have hnc35 := NB262_261.out
      have hnb36 := NB261_263.out
      have hnc36 := NB263_261.out
      obtain ⟨hcz37_0, hcz37_1, hcz37_2, hfz37_0, hfz37_1, hfz37_2⟩ := qc3 BK261.out
      try go_wp2
      refine qs4 (blk_drew BK261.out) (blk_drew BK262.out) (blk_drew BK263.out) (below_drew1 HB.out) ?_; clear BK261 BK262 BK263 HB; intro BK261 BK262 BK263 HB
      refine start_ (n := 9) (S := fun w' => w'.cell? ⟨gb261, 0, none⟩ = some (.string a0_0) ∧ w'.cell? ⟨gb261, 1, none⟩ = some (.string a0_1) ∧ w'.cell? ⟨gb261, 2, none⟩ = some (.int .i64 a0_2) ∧ w'.cell? ⟨gb262, 0, none⟩ = some (.string a1_0) ∧ w'.cell? ⟨gb262, 1, none⟩ = some (.string a1_1)) (ds := [8]) #[false, false, false, false, false, false, false, false, false] (by kernel_rfl) rfl rfl ⟨(blk_cell BK261.out 0).trans rfl, (blk_cell BK261.out 1).trans rfl, (blk_cell BK261.out 2).trans rfl, (blk_cell BK262.out 0).trans rfl, (blk_cell BK262.out 1).trans rfl⟩ (fun hHeld => ?_); refine with_tabW spec_AppendRecord.tab5 spec_AppendRecord.bits5 (fun HT_ HW_ => ?_)
      generalize wc.drew = w38 at BK261 BK262 BK263 HB hHeld ⊢
      refine qp 0 19 ?_; refine qp 2 21 ?_; refine qt5 1 20 ?_; refine qt5 3 22 ?_; refine qt5 4 23 ?_
      refine one_ (i := 5) (N := some 24) #[true, true, true, true, true, true, false, false, false] rfl rfl (one_of HT_.out (by kernel_rfl)) (by decide) (fun K hK => ?_)
      refine goes_ Tryd.func45 (by kernel_rfl) rfl #[.int .i64 a0_2, .agg #[.string a1_0, .string a1_1]] (by rfl) rfl rfl zz21 ?_
      with_reducible refine (spec_l27Line.calls kj2 a0_2 a1_0 a1_1 t266 _ A33.out).mono ?_
      rintro e w39 ⟨rfl, hb⟩
      refine ⟨_, rfl, ?_⟩
      refine qs4 (blk_below (qb BK261.out) hb) (blk_below (qb BK262.out) hb) (blk_below (qb BK263.out) hb) (below_step zz69 hb) ?_; clear BK261 BK262 BK263 HB; intro BK261 BK262 BK263 HB
      (try clear hb)
      (try clear hb2)
      (try clear hk)
      (try clear hi)
      refine hK.out _ _ ⟨(blk_cell BK261.out 0).trans rfl, (blk_cell BK261.out 1).trans rfl, (blk_cell BK261.out 2).trans rfl, (blk_cell BK262.out 0).trans rfl, (blk_cell BK262.out 1).trans rfl⟩ (fun hHeld => ?_)
      clear hK K
      refine norm_ (a' := ?_) ?_ ?_
      rotate_left
      · show Act.put _ (some 24) _ = _
        simp only [Act.put, List.setIfInBounds_toArray, List.set_cons_zero, List.set_cons_succ, i64_w, i32_w]
        rfl
      refine qp 6 25 ?_; refine qp 7 26 ?_
      refine last_ (i := 8) (N := none) #[true, true, true, true, true, true, true, true, true] rfl rfl (one_of HT_.out (by kernel_rfl)) (by decide) (fun K hK => ?_)
      have hs40 : w39.cell? ⟨gb261, 1, none⟩ = some (.string a0_1) := (blk_cell BK261.out 1).trans rfl
      have hfs40 := blk_frozen BK261.out 1
      have hns40_1 := NB262_261.out
      have hns40_2 := NB263_261.out
      have hms40_1 := NB261_262.out
      have hms40_2 := NB261_263.out
      refine skip_ (w1 := ?_) (by rfl) rfl ?_ ?_
      rotate_left
      · go_simp
        rfl
      refine hK.out _ _ ?_
      clear hK K
      refine done_ (done_of HT_.out (by kernel_rfl)) ?_
      obtain ⟨hcz41_0, hcz41_1, hcz41_2, hfz41_0, hfz41_1, hfz41_2⟩ := qc3 BK261.out
      have hnb42 := NB263_262.out
      have hnc42 := NB262_263.out
      obtain ⟨hcz43_0, hcz43_1, hcz43_2, hfz43_0, hfz43_1, hfz43_2⟩ := qc3 BK263.out
      try go_wp2
      refine bodyPost_ret (results_ct rfl _ _ gb263 26 #[.string a0_0, .string (cat a0_1 t266), .int .i64 (wrap64 (a0_2 + 1))] (0, 0) _ rfl (by (with_reducible repeat (first | refine blk_drewN ?_ _ | refine blk_drew ?_ | refine blk_alloc ?_ _)); refine blk_put (cs := #[.string a0_0, .string (cat a0_1 t266), .int .i64 0]) ?_ 2 _ rfl; (with_reducible repeat (first | refine blk_drewN ?_ _ | refine blk_drew ?_ | refine blk_alloc ?_ _)); refine blk_put (cs := #[.string a0_0, .string (⟨#[]⟩ : ByteArray), .int .i64 0]) ?_ 1 _ rfl; (with_reducible repeat (first | refine blk_drewN ?_ _ | refine blk_drew ?_ | refine blk_alloc ?_ _)); refine blk_put (cs := #[.string (⟨#[]⟩ : ByteArray), .string (⟨#[]⟩ : ByteArray), .int .i64 0]) ?_ 0 _ rfl; (with_reducible repeat (first | refine blk_drewN ?_ _ | refine blk_drew ?_ | refine blk_alloc ?_ _)); refine blk_far ?_ NB263_261.out _; (with_reducible repeat (first | refine blk_drewN ?_ _ | refine blk_drew ?_ | refine blk_alloc ?_ _)); refine blk_far ?_ NB263_261.out _; (with_reducible repeat (first | refine blk_drewN ?_ _ | refine blk_drew ?_ | refine blk_alloc ?_ _)); exact BK263.out) Tryd.underlying26 rfl (by kernel_rfl)) rfl ?_
      exact ⟨zz7, zz69⟩

end

section
attribute [local go_sem high] run_add_cat run_slice_cat run_slice_cat_h run_slice_cat_l run_slice_cat_all
/-! ### laws_toLogRecord: function 22 -/
end

end Go.Proofs.YtokmidpeeejahaaDoor.G

-- Written by a program of this session (wip/pd.py), which calls the kit's print; externals' contracts by hand.
namespace Go.Proofs.YtokmidpeeejahaaDoor.G
open Go.Proofs.YtokmidpeeejahaaDoorQ
open Go.RowKit Go.Proofs.YtokmidpeeejahaaDoorW.PrintWords Go.Proofs.YtokmidpeeejahaaDoorW.PrintLast Go.Proofs.YtokmidpeeejahaaDoorW.PrintMore
attribute [local go_sem] max2_int min2_int max_two min_two max_three min_three max_four min_four   -- for this text's walks alone
set_option linter.unusedVariables false
set_option linter.unusedSimpArgs false

section
attribute [local go_sem high] run_add_cat run_slice_cat run_slice_cat_h run_slice_cat_l run_slice_cat_all
/-! ### impl_AppendRecord: function 23 -/
def impl_AppendRecord.j0 : Nat → Bool → ByteArray → ByteArray → Int → ByteArray → ByteArray → Option (ByteArray × ByteArray × Int × Int)
  | 0, _, _, _, _, _, _ => none
  | k + 1, x15, x271000, x271001, x271002, x272000, x272001 => if x15 = true then (some (x271000, x271001, x271002, 1)) else ((impl_EncodeRecord.f k x271002 x272000 x272001).bind fun bt275 => (if bt275.2 = true then (if x271001.size + bt275.1.size ≤ 9223372036854775807 then (some (x271000, cat x271001 bt275.1, wrap64 (x271002 + 1), 0)) else (none)) else (some (x271000, x271001, x271002, 2))))
def impl_AppendRecord.f (k : Nat) (a0_0 : ByteArray) (a0_1 : ByteArray) (a0_2 : Int) (a1_0 : ByteArray) (a1_1 : ByteArray) : Option (ByteArray × ByteArray × Int × Int) := (impl_IsValidLog.f k a0_0 a0_1 a0_2).bind fun t273 => (if t273 = true then ((impl_IsValidRecord.f a1_0 a1_1).bind fun t274 => (impl_AppendRecord.j0 k (!t274) a0_0 a0_1 a0_2 a1_0 a1_1)) else (impl_AppendRecord.j0 k true a0_0 a0_1 a0_2 a1_0 a1_1))
set_option maxHeartbeats 8000000 in
set_option maxRecDepth 100000 in
theorem impl_AppendRecord.calls (k : Nat) (a0_0 : ByteArray) (a0_1 : ByteArray) (a0_2 : Int) (a1_0 : ByteArray) (a1_1 : ByteArray) (r1 : ByteArray) (r2 : ByteArray) (r3 : Int) (r4 : Int) (w : World) (hG : Gl w) (h : impl_AppendRecord.f k a0_0 a0_1 a0_2 a1_0 a1_1 = some (r1, r2, r3, r4)) :
    Calls Tryd.prog 23 #[.agg #[.string a0_0, .string a0_1, .int .i64 a0_2], .agg #[.string a1_0, .string a1_1]] w fun e w' => e = .returned (.tuple #[.agg #[.string r1, .string r2, .int .i64 r3], .int .i64 r4]) ∧ Below w.heap.size w w' := by
  have hu26 := Tryd.underlying26
  have hu40 := Tryd.underlying40
  have HG := Aside0.mk hG
  clear hG
  have HB := Aside0.mk (Below.refl w.heap.size w)
  unfold impl_AppendRecord.f at h
  have H := h
  clear h
  have HC3 := Aside0.mk H
  clear H
  go_enter Tryd.func23, Tryd.ntmps23
  go_upto_region 1 with (first | ((with_reducible refine gate_dst (N := 2) rfl ?_); refine qbox (N := 2) (cs := #[.string a0_0, .string a0_1, .int .i64 a0_2]) (t := 26) ?_; intro gb270 hg w4 hbox hb; refine qs4 (below_step zz20 hb) (hbox) ((zz119 : w.heap.size ≤ gb270)) ((zz119 : w.heap.size ≤ gb270)) ?_; clear HB; intro HB BK270 GW270 GE270; clear hb hbox hg) | ((with_reducible refine gate_dst (N := 3) rfl ?_); refine qbox (N := 3) (cs := #[.string a1_0, .string a1_1]) (t := 40) ?_; intro gb271 hg w5 hbox hb; refine qs7 (blk_below (qb BK270.out) hb) (below_step zz41 hb) (hbox) ((by rw [hg]; exact (below_size zz41) : w.heap.size ≤ gb271)) ((by rw [hg]; exact (below_size zz41) : w.heap.size ≤ gb271)) ((by rw [hg]; exact Nat.ne_of_lt (blk_lt (qb BK270.out)) : gb270 ≠ gb271)) ((by rw [hg]; exact Nat.ne_of_gt (blk_lt (qb BK270.out)) : gb271 ≠ gb270)) ?_; clear BK270 HB; intro BK270 HB BK271 GW271 GE271 NB270_271 NB271_270; clear hb hbox hg) | ((with_reducible refine gate_dst (N := 4) rfl ?_); refine qbox (N := 4) (cs := #[.string (⟨#[]⟩ : ByteArray), .string (⟨#[]⟩ : ByteArray), .int .i64 0]) (t := 26) ?_; intro gb272 hg w6 hbox hb; refine qs10 (blk_below (qb BK270.out) hb) (blk_below (qb BK271.out) hb) (below_step zz59 hb) (hbox) ((by rw [hg]; exact (below_size zz59) : w.heap.size ≤ gb272)) ((by rw [hg]; exact (below_size zz59) : w.heap.size ≤ gb272)) ((by rw [hg]; exact Nat.ne_of_lt (blk_lt (qb BK270.out)) : gb270 ≠ gb272)) ((by rw [hg]; exact Nat.ne_of_gt (blk_lt (qb BK270.out)) : gb272 ≠ gb270)) ((by rw [hg]; exact Nat.ne_of_lt (blk_lt (qb BK271.out)) : gb271 ≠ gb272)) ((by rw [hg]; exact Nat.ne_of_gt (blk_lt (qb BK271.out)) : gb272 ≠ gb271)) ?_; clear BK270 BK271 HB; intro BK270 BK271 HB BK272 GW272 GE272 NB270_272 NB272_270 NB271_272 NB272_271; clear hb hbox hg))
  (try simp only [Act.put, List.setIfInBounds_toArray, List.set_cons_zero, List.set_cons_succ])
  go_cut [15] (fun v15 wc => ∃ (kq : Nat) (x15_2 : Bool), v15 = .bool x15_2 ∧ Aside0 (impl_AppendRecord.j0 kq x15_2 a0_0 a0_1 a0_2 a1_0 a1_1 = some (r1, r2, r3, r4)) ∧ Aside0 (kq ≤ k) ∧ Aside0 (wc.heap[gb270]? = some (.cells #[.string a0_0, .string a0_1, .int .i64 a0_2] 26 (0, 0))) ∧ Aside0 (wc.heap[gb271]? = some (.cells #[.string a1_0, .string a1_1] 40 (0, 0))) ∧ Aside0 (wc.heap[gb272]? = some (.cells #[.string (⟨#[]⟩ : ByteArray), .string (⟨#[]⟩ : ByteArray), .int .i64 0] 26 (0, 0))) ∧ Aside0 (Below w.heap.size w wc))
  case first =>
    have H := HC3.out
    clear HC3
    replace H := Option.bind_eq_some_iff.mp H
    obtain ⟨t273, A70, H⟩ := H
    (try dsimp only at H)
    have A7 := Aside0.mk A70
    clear A70
    by_cases c8 : t273 = true
    rotate_left
    · replace c8 := Bool.eq_false_iff.mpr c8
      subst c8
      rw [if_neg (show ¬ (false = true) by decide)] at H
      have H' := Aside0.mk H
      clear H
      have hnb17 := NB270_271.out
      have hnc17 := NB271_270.out
      have hnb18 := NB270_272.out
      have hnc18 := NB272_270.out
      obtain ⟨hcz19_0, hcz19_1, hcz19_2, hfz19_0, hfz19_1, hfz19_2⟩ := qc3 BK270.out
      go_wp2_with (first | ((with_reducible refine gate_callee (f := 14) rfl ?_); refine qcall 9 Tryd.func14 rfl #[.agg #[.string a0_0, .string a0_1, .int .i64 a0_2]] ?_; (with_reducible refine (impl_IsValidLog.calls k a0_0 a0_1 a0_2 false _ ?side1 A7.out).mono ?_); (case side1 => exact Gl.below HG.out zz68); rintro e w20 ⟨rfl, hb⟩; refine ⟨_, rfl, ?_⟩; refine qs4 (blk_below (qb BK270.out) hb) (blk_below (qb BK271.out) hb) (blk_below (qb BK272.out) hb) (below_step zz68 hb) ?_; clear BK270 BK271 BK272 HB; intro BK270 BK271 BK272 HB; (try clear hb); (try clear hb2); (try clear hk); (try clear hi)))
      go_meet
      case rel => exact ⟨_, (true), zz3, H', ⟨zz1⟩, ⟨by (with_reducible repeat (first | refine blk_drewN ?_ _ | refine blk_drew ?_ | refine blk_alloc ?_ _)); exact BK270.out⟩, ⟨by (with_reducible repeat (first | refine blk_drewN ?_ _ | refine blk_drew ?_ | refine blk_alloc ?_ _)); exact BK271.out⟩, ⟨by (with_reducible repeat (first | refine blk_drewN ?_ _ | refine blk_drew ?_ | refine blk_alloc ?_ _)); exact BK272.out⟩, ⟨zz68⟩⟩
    subst c8
    rw [if_pos rfl] at H
    replace H := Option.bind_eq_some_iff.mp H
    obtain ⟨t274, A90, H⟩ := H
    (try dsimp only at H)
    have A9 := Aside0.mk A90
    clear A90
    have H' := Aside0.mk H
    clear H
    have hnb10 := NB270_271.out
    have hnc10 := NB271_270.out
    have hnb11 := NB270_272.out
    have hnc11 := NB272_270.out
    obtain ⟨hcz12_0, hcz12_1, hcz12_2, hfz12_0, hfz12_1, hfz12_2⟩ := qc3 BK270.out
    go_wp2_with (first | ((with_reducible refine gate_callee (f := 14) rfl ?_); refine qcall 9 Tryd.func14 rfl #[.agg #[.string a0_0, .string a0_1, .int .i64 a0_2]] ?_; (with_reducible refine (impl_IsValidLog.calls k a0_0 a0_1 a0_2 true _ ?side1 A7.out).mono ?_); (case side1 => exact Gl.below HG.out zz68); rintro e w13 ⟨rfl, hb⟩; refine ⟨_, rfl, ?_⟩; refine qs4 (blk_below (qb BK270.out) hb) (blk_below (qb BK271.out) hb) (blk_below (qb BK272.out) hb) (below_step zz68 hb) ?_; clear BK270 BK271 BK272 HB; intro BK270 BK271 BK272 HB; (try clear hb); (try clear hb2); (try clear hk); (try clear hi); have hnb14 := NB271_272.out; have hnc14 := NB272_271.out; obtain ⟨hcz15_0, hcz15_1, hfz15_0, hfz15_1⟩ := qc2 BK271.out) | (go_at_call 37; (with_reducible refine (impl_IsValidRecord.calls a1_0 a1_1 t274 _ ?side1 A9.out).mono ?_); (case side1 => exact Gl.below HG.out zz68); rintro e w16 ⟨rfl, hb⟩; refine qs4 (blk_below (qb BK270.out) hb) (blk_below (qb BK271.out) hb) (blk_below (qb BK272.out) hb) (below_step zz68 hb) ?_; clear BK270 BK271 BK272 HB; intro BK270 BK271 BK272 HB; (try clear hb); (try clear hb2); (try clear hk); (try clear hi)))
    go_meet
    case rel => exact ⟨_, (!t274), zz3, H', ⟨zz1⟩, ⟨by (with_reducible repeat (first | refine blk_drewN ?_ _ | refine blk_drew ?_ | refine blk_alloc ?_ _)); exact BK270.out⟩, ⟨by (with_reducible repeat (first | refine blk_drewN ?_ _ | refine blk_drew ?_ | refine blk_alloc ?_ _)); exact BK271.out⟩, ⟨by (with_reducible repeat (first | refine blk_drewN ?_ _ | refine blk_drew ?_ | refine blk_alloc ?_ _)); exact BK272.out⟩, ⟨zz68⟩⟩
  case rest =>
    clear HC3
    try clear c1
    try clear c2
    try clear p2
    try clear c8
    try clear c10
    try clear c11
    try clear c14
    try clear c17
    try clear c18
    try clear hcz12_0
    try clear hcz12_1
    try clear hcz12_2
    try clear hcz15_0
    try clear hcz15_1
    try clear hcz19_0
    try clear hcz19_1
    try clear hcz19_2
    try clear hfz12_0
    try clear hfz12_1
    try clear hfz12_2
    try clear hfz15_0
    try clear hfz15_1
    try clear hfz19_0
    try clear hfz19_1
    try clear hfz19_2
    obtain ⟨kq, x15_2, rfl, HA, HJ2, BK270, BK271, BK272, HB⟩ := hcut
    cases kq with
    | zero => exact absurd HA.out (by simp [impl_AppendRecord.j0])
    | succ kj2 =>
      have H := HA.out
      clear HA
      simp only [impl_AppendRecord.j0] at H
      by_cases c21 : x15_2 = true
      · subst c21
        rw [if_pos rfl] at H
        simp only [Option.some.injEq, Prod.mk.injEq] at H
        obtain ⟨rfl, rfl, rfl, rfl⟩ := H
        have hnb22 := NB270_271.out
        have hnc22 := NB271_270.out
        have hnb23 := NB270_272.out
        have hnc23 := NB272_270.out
        obtain ⟨hcz24_0, hcz24_1, hcz24_2, hfz24_0, hfz24_1, hfz24_2⟩ := qc3 BK270.out
        have hnb25 := NB272_271.out
        have hnc25 := NB271_272.out
        obtain ⟨hcz26_0, hcz26_1, hcz26_2, hfz26_0, hfz26_1, hfz26_2⟩ := qc3 BK272.out
        go_wp2
        refine bodyPost_ret (results_ct rfl _ _ gb272 26 #[.string a0_0, .string a0_1, .int .i64 a0_2] (0, 0) _ rfl zz116 Tryd.underlying26 rfl (by kernel_rfl)) rfl ?_
        exact ⟨zz7, zz68⟩
      replace c21 := Bool.eq_false_iff.mpr c21
      subst c21
      rw [if_neg (show ¬ (false = true) by decide)] at H
      replace H := Option.bind_eq_some_iff.mp H
      obtain ⟨⟨t275, t276⟩, A270, H⟩ := H
      (try dsimp only at H)
      have A27 := Aside0.mk A270
      clear A270
      by_cases c28 : t276 = true
      rotate_left
      · replace c28 := Bool.eq_false_iff.mpr c28
        subst c28
        rw [if_neg (show ¬ (false = true) by decide)] at H
        simp only [Option.some.injEq, Prod.mk.injEq] at H
        obtain ⟨rfl, rfl, rfl, rfl⟩ := H
        have hnb38 := NB270_271.out
        have hnc38 := NB271_270.out
        have hnb39 := NB270_272.out
        have hnc39 := NB272_270.out
        obtain ⟨hcz40_0, hcz40_1, hcz40_2, hfz40_0, hfz40_1, hfz40_2⟩ := qc3 BK270.out
        have hnb41 := NB271_272.out
        have hnc41 := NB272_271.out
        obtain ⟨hcz42_0, hcz42_1, hfz42_0, hfz42_1⟩ := qc2 BK271.out
        go_wp2_with (first | ((with_reducible refine gate_callee (f := 31) rfl ?_); refine qcall 21 Tryd.func31 rfl #[.int .i64 a0_2, .agg #[.string a1_0, .string a1_1]] ?_; (with_reducible refine (impl_EncodeRecord.calls kj2 a0_2 a1_0 a1_1 t275 false _ ?side1 A27.out).mono ?_); (case side1 => exact Gl.below HG.out zz68); rintro e w43 ⟨rfl, hb⟩; refine ⟨_, rfl, ?_⟩; refine qs4 (blk_below (qb BK270.out) hb) (blk_below (qb BK271.out) hb) (blk_below (qb BK272.out) hb) (below_step zz68 hb) ?_; clear BK270 BK271 BK272 HB; intro BK270 BK271 BK272 HB; (try clear hb); (try clear hb2); (try clear hk); (try clear hi); obtain ⟨hcz44_0, hcz44_1, hcz44_2, hfz44_0, hfz44_1, hfz44_2⟩ := qc3 BK270.out; obtain ⟨hcz45_0, hcz45_1, hcz45_2, hfz45_0, hfz45_1, hfz45_2⟩ := qc3 BK272.out))
        refine bodyPost_ret (results_ct rfl _ _ gb272 26 #[.string a0_0, .string a0_1, .int .i64 a0_2] (0, 0) _ rfl zz116 Tryd.underlying26 rfl (by kernel_rfl)) rfl ?_
        exact ⟨zz7, zz68⟩
      subst c28
      rw [if_pos rfl] at H
      by_cases c29 : a0_1.size + t275.size ≤ 9223372036854775807
      rotate_left
      · rw [if_neg c29] at H
        exact absurd H (by simp)
      rw [if_pos c29] at H
      have c29b0 := eq_true c29
      have c29b1 := decide_eq_true c29
      try have c29b2 := eq_false (Nat.not_lt.2 c29)
      clear c29
      simp only [Option.some.injEq, Prod.mk.injEq] at H
      obtain ⟨rfl, rfl, rfl, rfl⟩ := H
      have hnb30 := NB270_271.out
      have hnc30 := NB271_270.out
      have hnb31 := NB270_272.out
      have hnc31 := NB272_270.out
      obtain ⟨hcz32_0, hcz32_1, hcz32_2, hfz32_0, hfz32_1, hfz32_2⟩ := qc3 BK270.out
      have hnb33 := NB271_272.out
      have hnc33 := NB272_271.out
      obtain ⟨hcz34_0, hcz34_1, hfz34_0, hfz34_1⟩ := qc2 BK271.out
      go_wp2_with (first | ((with_reducible refine gate_callee (f := 31) rfl ?_); refine qcall 21 Tryd.func31 rfl #[.int .i64 a0_2, .agg #[.string a1_0, .string a1_1]] ?_; (with_reducible refine (impl_EncodeRecord.calls kj2 a0_2 a1_0 a1_1 t275 true _ ?side1 A27.out).mono ?_); (case side1 => exact Gl.below HG.out zz68); rintro e w35 ⟨rfl, hb⟩; refine ⟨_, rfl, ?_⟩; refine qs4 (blk_below (qb BK270.out) hb) (blk_below (qb BK271.out) hb) (blk_below (qb BK272.out) hb) (below_step zz68 hb) ?_; clear BK270 BK271 BK272 HB; intro BK270 BK271 BK272 HB; (try clear hb); (try clear hb2); (try clear hk); (try clear hi); obtain ⟨hcz36_0, hcz36_1, hcz36_2, hfz36_0, hfz36_1, hfz36_2⟩ := qc3 BK270.out; obtain ⟨hcz37_0, hcz37_1, hcz37_2, hfz37_0, hfz37_1, hfz37_2⟩ := qc3 BK272.out))
      refine bodyPost_ret (results_ct rfl _ _ gb272 26 #[.string a0_0, .string (cat a0_1 t275), .int .i64 (wrap64 (a0_2 + 1))] (0, 0) _ rfl (by (with_reducible repeat (first | refine blk_drewN ?_ _ | refine blk_drew ?_ | refine blk_alloc ?_ _)); refine blk_put (cs := #[.string a0_0, .string (cat a0_1 t275), .int .i64 0]) ?_ 2 _ rfl; (with_reducible repeat (first | refine blk_drewN ?_ _ | refine blk_drew ?_ | refine blk_alloc ?_ _)); refine blk_put (cs := #[.string a0_0, .string (⟨#[]⟩ : ByteArray), .int .i64 0]) ?_ 1 _ rfl; (with_reducible repeat (first | refine blk_drewN ?_ _ | refine blk_drew ?_ | refine blk_alloc ?_ _)); refine blk_put (cs := #[.string (⟨#[]⟩ : ByteArray), .string (⟨#[]⟩ : ByteArray), .int .i64 0]) ?_ 0 _ rfl; (with_reducible repeat (first | refine blk_drewN ?_ _ | refine blk_drew ?_ | refine blk_alloc ?_ _)); exact BK272.out) Tryd.underlying26 rfl (by kernel_rfl)) rfl ?_
      exact ⟨zz7, zz68⟩

end

end Go.Proofs.YtokmidpeeejahaaDoor.G

-- Written by a program of this session (wip/pd.py), which calls the kit's print; externals' contracts by hand.
namespace Go.Proofs.YtokmidpeeejahaaDoor.G
open Go.Proofs.YtokmidpeeejahaaDoorQ
open Go.RowKit Go.Proofs.YtokmidpeeejahaaDoorW.PrintWords Go.Proofs.YtokmidpeeejahaaDoorW.PrintLast Go.Proofs.YtokmidpeeejahaaDoorW.PrintMore
attribute [local go_sem] max2_int min2_int max_two min_two max_three min_three max_four min_four   -- for this text's walks alone
set_option linter.unusedVariables false
set_option linter.unusedSimpArgs false

section
attribute [local go_sem high] run_add_cat run_slice_cat run_slice_cat_h run_slice_cat_l run_slice_cat_all
/-! ### laws_FnExactAppendRecord: function 6 -/
end

end Go.Proofs.YtokmidpeeejahaaDoor.G

-- Written by a program of this session (wip/pd.py), which calls the kit's print; externals' contracts by hand.
namespace Go.Proofs.YtokmidpeeejahaaDoor.G
open Go.Proofs.YtokmidpeeejahaaDoorQ
open Go.RowKit Go.Proofs.YtokmidpeeejahaaDoorW.PrintWords Go.Proofs.YtokmidpeeejahaaDoorW.PrintLast Go.Proofs.YtokmidpeeejahaaDoorW.PrintMore
attribute [local go_sem] max2_int min2_int max_two min_two max_three min_three max_four min_four   -- for this text's walks alone
set_option linter.unusedVariables false
set_option linter.unusedSimpArgs false

section
attribute [local go_sem high] run_add_cat run_slice_cat run_slice_cat_h run_slice_cat_l run_slice_cat_all
/-! ### spec_LogRecords: function 24 -/
def spec_LogRecords.f (k : Nat) (a0_0 : ByteArray) (a0_1 : ByteArray) (a0_2 : Int) : Option ((List (S40)) × Bool) := (spec_l27Log.f k a0_0 a0_1 a0_2).bind fun t303 => (if t303 = true then (if a0_0.size + a0_1.size ≤ 9223372036854775807 then ((spec_l27Open.f k (cat a0_0 a0_1)).bind fun bt304 => (some (bt304.1, true))) else (none)) else (some ((([] : List (S40))), false)))
end

section
attribute [local go_sem high] run_add_cat run_slice_cat run_slice_cat_h run_slice_cat_l run_slice_cat_all
/-! ### impl_LogRecords: function 25 -/
def impl_LogRecords.f (k : Nat) (a0_0 : ByteArray) (a0_1 : ByteArray) (a0_2 : Int) : Option ((List (S40)) × Bool) := (impl_Log_records.f k a0_0 a0_1 a0_2).bind fun bt312 => (if bt312.2 = true then (some (bt312.1, true)) else (some (([] : List (S40)), false)))
set_option maxHeartbeats 8000000 in
set_option maxRecDepth 100000 in
theorem impl_LogRecords.calls (k : Nat) (a0_0 : ByteArray) (a0_1 : ByteArray) (a0_2 : Int) (r1 : List (S40)) (r2 : Bool) (w : World) (hG : Gl w) (h : impl_LogRecords.f k a0_0 a0_1 a0_2 = some (r1, r2)) :
    Calls Tryd.prog 25 #[.agg #[.string a0_0, .string a0_1, .int .i64 a0_2]] w fun e w' => ∃ v0_ : Value, e = .returned (.tuple #[v0_, .bool r2]) ∧ Kd.R k40 40 w' w.heap.size (fun _ => True) v0_ r1 ∧ Below w.heap.size w w' := by
  have hu26 := Tryd.underlying26
  have HG := Aside0.mk hG
  clear hG
  have HB := Aside0.mk (Below.refl w.heap.size w)
  unfold impl_LogRecords.f at h
  have H := h
  clear h
  replace H := Option.bind_eq_some_iff.mp H
  obtain ⟨⟨t312, t315⟩, A20, H⟩ := H
  (try dsimp only at H)
  have A2 := Aside0.mk A20
  clear A20
  by_cases c3 : t315 = true
  · subst c3
    rw [if_pos rfl] at H
    simp only [Option.some.injEq, Prod.mk.injEq] at H
    obtain ⟨rfl, rfl⟩ := H
    go_enter Tryd.func25, Tryd.ntmps25
    go_wp2_with (first | ((with_reducible refine gate_dst (N := 1) rfl ?_); refine qbox (N := 1) (cs := #[.string a0_0, .string a0_1, .int .i64 a0_2]) (t := 26) ?_; intro gb311 hg w4 hbox hb; refine qs4 (below_step zz20 hb) (hbox) ((zz119 : w.heap.size ≤ gb311)) ((zz119 : w.heap.size ≤ gb311)) ?_; clear HB; intro HB BK311 GW311 GE311; clear hb hbox hg; obtain ⟨hcz5_0, hcz5_1, hcz5_2, hfz5_0, hfz5_1, hfz5_2⟩ := qc3 BK311.out) | ((with_reducible refine gate_callee (f := 41) rfl ?_); refine qcall 8 Tryd.func41 rfl #[.agg #[.string a0_0, .string a0_1, .int .i64 a0_2]] ?_; (with_reducible refine (impl_Log_records.calls k a0_0 a0_1 a0_2 t312 true _ ?side1 A2.out).mono ?_); (case side1 => exact Gl.below HG.out zz32); rintro e w6 ⟨v313, rfl, ho0, hb⟩; refine ⟨_, rfl, ?_⟩; refine qs3 (Kd.R_lower ho0 (below_size zz32)) (blk_below (qb BK311.out) hb) (below_step zz32 hb) ?_; clear BK311 HB; intro HO314 BK311 HB; (try clear hb); (try clear hb2); (try clear hk); (try clear hi); (try clear ho0)))
    go_ret2
    exact ⟨_, zz7, by (with_reducible repeat (first | apply Kd.R_alloc | apply Kd.R_drewN | apply Kd.R_drew)); exact HO314.out, zz32⟩
  replace c3 := Bool.eq_false_iff.mpr c3
  subst c3
  rw [if_neg (show ¬ (false = true) by decide)] at H
  simp only [Option.some.injEq, Prod.mk.injEq] at H
  obtain ⟨rfl, rfl⟩ := H
  go_enter Tryd.func25, Tryd.ntmps25
  go_wp2_with (first | ((with_reducible refine gate_dst (N := 1) rfl ?_); refine qbox (N := 1) (cs := #[.string a0_0, .string a0_1, .int .i64 a0_2]) (t := 26) ?_; intro gb311 hg w7 hbox hb; refine qs4 (below_step zz20 hb) (hbox) ((zz119 : w.heap.size ≤ gb311)) ((zz119 : w.heap.size ≤ gb311)) ?_; clear HB; intro HB BK311 GW311 GE311; clear hb hbox hg; obtain ⟨hcz8_0, hcz8_1, hcz8_2, hfz8_0, hfz8_1, hfz8_2⟩ := qc3 BK311.out) | ((with_reducible refine gate_callee (f := 41) rfl ?_); refine qcall 8 Tryd.func41 rfl #[.agg #[.string a0_0, .string a0_1, .int .i64 a0_2]] ?_; (with_reducible refine (impl_Log_records.calls k a0_0 a0_1 a0_2 t312 false _ ?side1 A2.out).mono ?_); (case side1 => exact Gl.below HG.out zz32); rintro e w9 ⟨v313, rfl, ho0, hb⟩; refine ⟨_, rfl, ?_⟩; refine qs3 (Kd.R_lower ho0 (below_size zz32)) (blk_below (qb BK311.out) hb) (below_step zz32 hb) ?_; clear BK311 HB; intro HO314 BK311 HB; (try clear hb); (try clear hb2); (try clear hk); (try clear hi); (try clear ho0)))
  go_ret2
  exact ⟨_, zz7, zz22, zz32⟩

end

section
attribute [local go_sem high] run_add_cat run_slice_cat run_slice_cat_h run_slice_cat_l run_slice_cat_all
/-! ### laws_eqLogRecord: function 47 -/
def laws_eqLogRecord.f (a0_0 : ByteArray) (a0_1 : ByteArray) (a1_0 : ByteArray) (a1_1 : ByteArray) : Option (Bool) := if a0_0.toList = a1_0.toList then (if a0_1.toList = a1_1.toList then (some true) else (some false)) else (some false)
end

section
attribute [local go_sem high] run_add_cat run_slice_cat run_slice_cat_h run_slice_cat_l run_slice_cat_all
/-! ### laws_eqLogRecordS: function 26 -/
def laws_eqLogRecordS.l0 : Nat → List (S40) → List (S40) → Int → Option (Bool)
  | 0, _, _, _ => none
  | k + 1, x0, x1, x5 => if x5 < (x0.length : Int) then (if 0 ≤ x5 then (if x5 < (x1.length : Int) then ((laws_eqLogRecord.f ((rd_T40 x0 x5).f0) ((rd_T40 x0 x5).f1) ((rd_T40 x1 x5).f0) ((rd_T40 x1 x5).f1)).bind fun t320 => (if t320 = true then (laws_eqLogRecordS.l0 k x0 x1 (wrap64 (x5 + 1))) else (some false))) else (none)) else (none)) else (some true)
def laws_eqLogRecordS.f (k : Nat) (l0 : List (S40)) (l1 : List (S40)) : Option (Bool) := if (l0.length : Int) = (l1.length : Int) then (laws_eqLogRecordS.l0 k l0 l1 0) else (some false)
end

section
attribute [local go_sem high] run_add_cat run_slice_cat run_slice_cat_h run_slice_cat_l run_slice_cat_all
/-! ### laws_markText: function 48 -/
def laws_markText.l0 : Nat → Int → ByteArray → Option (ByteArray)
  | 0, _, _ => none
  | k + 1, x0, x3 => if x0 > 0 then ((some (([(wrap64 (48 + (Int.tmod x0 10))) % 256] : List Int) : List Int)).bind fun y321 => (if (strOfNums y321).size + x3.size ≤ 9223372036854775807 then (laws_markText.l0 k (wrap64 (Int.tdiv x0 10)) (cat (strOfNums y321) x3)) else (none))) else (if 1 + x3.size ≤ 9223372036854775807 then (some (cat (⟨#[109]⟩ : ByteArray) x3)) else (none))
def laws_markText.f (k : Nat) (a0 : Int) : Option (ByteArray) := if a0 ≤ 0 then (some (⟨#[109, 48]⟩ : ByteArray)) else (laws_markText.l0 k a0 (⟨#[]⟩ : ByteArray))
end

section
attribute [local go_sem high] run_add_cat run_slice_cat run_slice_cat_h run_slice_cat_l run_slice_cat_all
/-! ### laws_markLogRecordS: function 27 -/
def laws_markLogRecordS.l0 : Nat → List (S40) → Int → Int → Option (Int × (List (S40)))
  | 0, _, _, _ => none
  | k + 1, x0, x1, x5 => if x5 < (x0.length : Int) then ((laws_markText.f k x1).bind fun t324 => (if 0 ≤ x5 then ((some (x0.set (x5 : Int).toNat (⟨t324, (rd_T40 x0 x5).f1⟩ : S40) : List (S40))).bind fun y325 => ((laws_markText.f k (wrap64 (x1 + 1))).bind fun t326 => (laws_markLogRecordS.l0 k (y325.set (x5 : Int).toNat (⟨(rd_T40 y325 x5).f0, t326⟩ : S40)) (wrap64 ((wrap64 (x1 + 1)) + 1)) (wrap64 (x5 + 1))))) else (none))) else (some (x1, x0))
def laws_markLogRecordS.f (k : Nat) (l0 : List (S40)) (a1 : Int) : Option (Int × (List (S40))) := laws_markLogRecordS.l0 k l0 a1 0
end

end Go.Proofs.YtokmidpeeejahaaDoor.G

-- Written by a program of this session (wip/pd.py), which calls the kit's print; externals' contracts by hand.
namespace Go.Proofs.YtokmidpeeejahaaDoor.G
open Go.Proofs.YtokmidpeeejahaaDoorQ
open Go.RowKit Go.Proofs.YtokmidpeeejahaaDoorW.PrintWords Go.Proofs.YtokmidpeeejahaaDoorW.PrintLast Go.Proofs.YtokmidpeeejahaaDoorW.PrintMore
attribute [local go_sem] max2_int min2_int max_two min_two max_three min_three max_four min_four   -- for this text's walks alone
set_option linter.unusedVariables false
set_option linter.unusedSimpArgs false

section
attribute [local go_sem high] run_add_cat run_slice_cat run_slice_cat_h run_slice_cat_l run_slice_cat_all
/-! ### laws_heldLogRecordS: function 28 -/
def laws_heldLogRecordS.l0 : Nat → List (S40) → Int → Int → Option (Int)
  | 0, _, _, _ => none
  | k + 1, x0, x1, x5 => if x5 < (x0.length : Int) then (if 0 ≤ x5 then ((laws_markText.f k x1).bind fun t329 => (if ((rd_T40 x0 x5).f0).toList = t329.toList then ((laws_markText.f k (wrap64 (x1 + 1))).bind fun t331 => (if ((rd_T40 x0 x5).f1).toList = t331.toList then (laws_heldLogRecordS.l0 k x0 (wrap64 ((wrap64 (x1 + 1)) + 1)) (wrap64 (x5 + 1))) else (some (-1)))) else (some (-1)))) else (none)) else (some x1)
def laws_heldLogRecordS.f (k : Nat) (l0 : List (S40)) (a1 : Int) : Option (Int) := laws_heldLogRecordS.l0 k l0 a1 0
end

end Go.Proofs.YtokmidpeeejahaaDoor.G
