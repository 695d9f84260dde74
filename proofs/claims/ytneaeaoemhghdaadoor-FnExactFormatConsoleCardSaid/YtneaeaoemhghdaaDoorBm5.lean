/- Texts of this seat, joined: what the claim's last text rests on. Some began as words of the kit's print; what is not needed is left out. -/
import Derived.Test.YtneaeaoemhghdaaDoorBm3
import Derived.Test.YtneaeaoemhghdaaDoorBm4
import Derived.Test.YtneaeaoemhghdaaDoorBm2
-- Written by a program of this session (wip/pd.py), which calls the kit's print; externals' contracts by hand.
namespace Go.Proofs.YtneaeaoemhghdaaDoor.G
open Go.Proofs.YtneaeaoemhghdaaDoorQ
open Go.RowKit Go.Proofs.YtneaeaoemhghdaaDoorW.PrintWords Go.Proofs.YtneaeaoemhghdaaDoorW.PrintLast Go.Proofs.YtneaeaoemhghdaaDoorW.PrintMore
attribute [local go_sem] max2_int min2_int max_two min_two max_three min_three max_four min_four   -- for this text's walks alone
set_option linter.unusedVariables false
set_option linter.unusedSimpArgs false

section
attribute [local go_sem high] run_add_cat run_slice_cat run_slice_cat_h run_slice_cat_l run_slice_cat_all
/-! ### spec_FormatConsole: function 29 -/
def spec_FormatConsole.l0 : Nat → ByteArray → Int → Int → Int → List (S62) → Int → ByteArray → ByteArray → Int → Option (ByteArray × Bool)
  | 0, _, _, _, _, _, _, _, _, _ => none
  | k + 1, x4, x5, x354000, x354001, x354002, x354003, x354004, x354005, x354006 => if x5 < (x354002.length : Int) then ((spec_l1Num.f x5).bind fun t355 => (if x4.size + t355.size ≤ 9223372036854775807 then (if (cat x4 t355).size + 2 ≤ 9223372036854775807 then (if 0 ≤ x5 then ((spec_l25Text.f ((rd_T62 x354002 x5).f0) ((rd_T62 x354002 x5).f1) ((rd_T62 x354002 x5).f2) ((rd_T62 x354002 x5).f3) ((rd_T62 x354002 x5).f4)).bind fun t357 => (if (cat (cat x4 t355) (⟨#[58, 32]⟩ : ByteArray)).size + t357.size ≤ 9223372036854775807 then (if (cat (cat (cat x4 t355) (⟨#[58, 32]⟩ : ByteArray)) t357).size + 1 ≤ 9223372036854775807 then (spec_FormatConsole.l0 k (cat (cat (cat (cat x4 t355) (⟨#[58, 32]⟩ : ByteArray)) t357) (⟨#[10]⟩ : ByteArray)) (wrap64 (x5 + 1)) x354000 x354001 x354002 x354003 x354004 x354005 x354006) else (none)) else (none))) else (none)) else (none)) else (none))) else (if x4.size + 4 ≤ 9223372036854775807 then ((spec_l1Num.f x354000).bind fun t358 => (if (cat x4 (⟨#[100, 97, 121, 32]⟩ : ByteArray)).size + t358.size ≤ 9223372036854775807 then (if (cat (cat x4 (⟨#[100, 97, 121, 32]⟩ : ByteArray)) t358).size + 8 ≤ 9223372036854775807 then ((spec_l1Num.f x354003).bind fun t359 => (if (cat (cat (cat x4 (⟨#[100, 97, 121, 32]⟩ : ByteArray)) t358) (⟨#[59, 32, 109, 111, 110, 101, 121, 32]⟩ : ByteArray)).size + t359.size ≤ 9223372036854775807 then (if (cat (cat (cat (cat x4 (⟨#[100, 97, 121, 32]⟩ : ByteArray)) t358) (⟨#[59, 32, 109, 111, 110, 101, 121, 32]⟩ : ByteArray)) t359).size + 10 ≤ 9223372036854775807 then ((spec_l1Num.f x354006).bind fun t360 => (if (cat (cat (cat (cat (cat x4 (⟨#[100, 97, 121, 32]⟩ : ByteArray)) t358) (⟨#[59, 32, 109, 111, 110, 101, 121, 32]⟩ : ByteArray)) t359) (⟨#[59, 32, 114, 101, 99, 111, 114, 100, 115, 32]⟩ : ByteArray)).size + t360.size ≤ 9223372036854775807 then (if (cat (cat (cat (cat (cat (cat x4 (⟨#[100, 97, 121, 32]⟩ : ByteArray)) t358) (⟨#[59, 32, 109, 111, 110, 101, 121, 32]⟩ : ByteArray)) t359) (⟨#[59, 32, 114, 101, 99, 111, 114, 100, 115, 32]⟩ : ByteArray)) t360).size + 1 ≤ 9223372036854775807 then (some (cat (cat (cat (cat (cat (cat (cat x4 (⟨#[100, 97, 121, 32]⟩ : ByteArray)) t358) (⟨#[59, 32, 109, 111, 110, 101, 121, 32]⟩ : ByteArray)) t359) (⟨#[59, 32, 114, 101, 99, 111, 114, 100, 115, 32]⟩ : ByteArray)) t360) (⟨#[10]⟩ : ByteArray), true)) else (none)) else (none))) else (none)) else (none))) else (none)) else (none))) else (none))
def spec_FormatConsole.f (k : Nat) (a0_0 : Int) (a0_1 : Int) (l0_2 : List (S62)) (a0_3 : Int) (a0_4 : ByteArray) (a0_5 : ByteArray) (a0_6 : Int) : Option (ByteArray × Bool) := (spec_l28Good.f k a0_0 a0_1 l0_2 a0_3 a0_4 a0_5 a0_6).bind fun t354 => (if t354 = true then (spec_FormatConsole.l0 k (⟨#[]⟩ : ByteArray) 0 a0_0 a0_1 l0_2 a0_3 a0_4 a0_5 a0_6) else (some ((⟨#[]⟩ : ByteArray), false)))
def spec_FormatConsole.T7 : Bool × List (List Nat × List Nat) := (true, [([], []), ([], []), ([1], [1]), ([0, 2], [0, 2]), ([3], [3]), ([], []), ([5], [5]), ([6], [6]), ([], []), ([7, 8], [7, 8]), ([9], [9]), ([10, 2], [10]), ([4, 11], [4, 11]), ([12], [12]), ([13, 11, 0, 1, 2, 3, 4, 5, 6, 7, 8, 9, 10, 11, 12, 13], [0, 13])])
def spec_FormatConsole.B7 : List Nat := [0, 0, 2, 7, 15, 0, 32, 96, 0, 480, 992, 2022, 4095, 8191, 16383]
theorem spec_FormatConsole.tab7 : rtab .any (opsOf Tryd.f29 7) = spec_FormatConsole.T7 := by kernel_rfl
theorem spec_FormatConsole.bits7 : waitsOk spec_FormatConsole.T7.2 spec_FormatConsole.B7 = true := by kernel_rfl
def spec_FormatConsole.T8 : Bool × List (List Nat × List Nat) := (true, [([], []), ([0], [0]), ([], []), ([2], [2]), ([3], [3]), ([4], [4]), ([1, 5], [1, 5]), ([6], [6]), ([], []), ([8], [8]), ([9], [9]), ([10, 5], [10]), ([7, 11], [7, 11]), ([12], [12]), ([], []), ([14], [14]), ([15], [15]), ([16, 11], [16]), ([13, 17], [13, 17]), ([18], [18]), ([19, 17, 0, 1, 2, 3, 4, 5, 6, 7, 8, 9, 10, 11, 12, 13, 14, 15, 16, 17, 18, 19], [19]), ([20, 0, 1, 2, 3, 4, 5, 6, 7, 8, 9, 10, 11, 12, 13, 14, 15, 16, 17, 18, 19, 20], [])])
def spec_FormatConsole.B8 : List Nat := [0, 1, 0, 4, 12, 28, 63, 127, 0, 256, 768, 1852, 4095, 8191, 0, 16384, 49152, 118588, 262143, 524287, 1048575, 2097151]
theorem spec_FormatConsole.tab8 : rtab .any (opsOf Tryd.f29 8) = spec_FormatConsole.T8 := by kernel_rfl
theorem spec_FormatConsole.bits8 : waitsOk spec_FormatConsole.T8.2 spec_FormatConsole.B8 = true := by kernel_rfl
set_option maxHeartbeats 8000000 in
set_option maxRecDepth 100000 in
theorem spec_FormatConsole.calls (k : Nat) (a0_0 : Int) (a0_1 : Int) (A0_2 : Option Addr) (c0_2 : Nat) (l0_2 : List (S62)) (a0_3 : Int) (a0_4 : ByteArray) (a0_5 : ByteArray) (a0_6 : Int) (r1 : ByteArray) (r2 : Bool) (w : World) (hr0_2 : Kd.C k62 w A0_2 l0_2.length l0_2) (hc0_2 : l0_2.length ≤ c0_2) (h : spec_FormatConsole.f k a0_0 a0_1 l0_2 a0_3 a0_4 a0_5 a0_6 = some (r1, r2)) :
    Calls Tryd.prog 29 #[.agg #[.int .i64 a0_0, .int .i64 a0_1, .slice A0_2 l0_2.length c0_2, .int .i64 a0_3, .string a0_4, .string a0_5, .int .i64 a0_6]] w fun e w' => e = .returned (.tuple #[.string r1, .bool r2]) ∧ Below w.heap.size w w' := by
  have hu54 := Tryd.underlying54
  have hu62 := Tryd.underlying62
  have HR0_2 := Aside0.mk hr0_2
  have HC0_2 := Aside0.mk hc0_2
  clear hr0_2 hc0_2
  have HB := Aside0.mk (Below.refl w.heap.size w)
  unfold spec_FormatConsole.f at h
  have H := h
  clear h
  replace H := Option.bind_eq_some_iff.mp H
  obtain ⟨t354, A20, H⟩ := H
  (try dsimp only at H)
  have A2 := Aside0.mk A20
  clear A20
  by_cases c3 : t354 = true
  rotate_left
  · replace c3 := Bool.eq_false_iff.mpr c3
    subst c3
    rw [if_neg (show ¬ (false = true) by decide)] at H
    simp only [Option.some.injEq, Prod.mk.injEq] at H
    obtain ⟨rfl, rfl⟩ := H
    go_enter Tryd.func29, Tryd.ntmps29
    go_wp2_with (first | ((with_reducible refine gate_dst (N := 1) rfl ?_); refine qbox (N := 1) (cs := #[.int .i64 a0_0, .int .i64 a0_1, .slice A0_2 l0_2.length c0_2, .int .i64 a0_3, .string a0_4, .string a0_5, .int .i64 a0_6]) (t := 54) ?_; intro gb353 hg w34 hbox hb; refine qs4 (below_step zz20 hb) (hbox) ((zz87 : w.heap.size ≤ gb353)) ((zz87 : w.heap.size ≤ gb353)) ?_; clear HB; intro HB BK353 GW353 GE353; clear hb hbox hg; obtain ⟨hcz35_0, hcz35_1, hcz35_2, hcz35_3, hcz35_4, hcz35_5, hcz35_6, hfz35_0, hfz35_1, hfz35_2, hfz35_3, hfz35_4, hfz35_5, hfz35_6⟩ := qc7 BK353.out) | ((with_reducible refine gate_callee (f := 46) rfl ?_); refine qcall 7 Tryd.func46 rfl #[.agg #[.int .i64 a0_0, .int .i64 a0_1, .slice A0_2 l0_2.length c0_2, .int .i64 a0_3, .string a0_4, .string a0_5, .int .i64 a0_6]] ?_; (with_reducible refine (spec_l28Good.calls k a0_0 a0_1 _ _ l0_2 a0_3 a0_4 a0_5 a0_6 false _ ?side1 ?side2 A2.out).mono ?_); (case side1 => exact zz54); (case side2 => exact zz0); rintro e w36 ⟨rfl, hb⟩; refine ⟨_, rfl, ?_⟩; refine qs2 (blk_below (qb BK353.out) hb) (below_step zz33 hb) ?_; clear BK353 HB; intro BK353 HB; (try clear hb); (try clear hb2); (try clear hk); (try clear hi)))
    go_ret2
    exact ⟨zz9, zz33⟩
  subst c3
  rw [if_pos rfl] at H
  have H' := Aside0.mk H
  clear H
  go_enter Tryd.func29, Tryd.ntmps29
  go_wp2_with (first | ((with_reducible refine gate_dst (N := 1) rfl ?_); refine qbox (N := 1) (cs := #[.int .i64 a0_0, .int .i64 a0_1, .slice A0_2 l0_2.length c0_2, .int .i64 a0_3, .string a0_4, .string a0_5, .int .i64 a0_6]) (t := 54) ?_; intro gb353 hg w4 hbox hb; refine qs4 (below_step zz20 hb) (hbox) ((zz87 : w.heap.size ≤ gb353)) ((zz87 : w.heap.size ≤ gb353)) ?_; clear HB; intro HB BK353 GW353 GE353; clear hb hbox hg; obtain ⟨hcz5_0, hcz5_1, hcz5_2, hcz5_3, hcz5_4, hcz5_5, hcz5_6, hfz5_0, hfz5_1, hfz5_2, hfz5_3, hfz5_4, hfz5_5, hfz5_6⟩ := qc7 BK353.out) | ((with_reducible refine gate_callee (f := 46) rfl ?_); refine qcall 7 Tryd.func46 rfl #[.agg #[.int .i64 a0_0, .int .i64 a0_1, .slice A0_2 l0_2.length c0_2, .int .i64 a0_3, .string a0_4, .string a0_5, .int .i64 a0_6]] ?_; (with_reducible refine (spec_l28Good.calls k a0_0 a0_1 _ _ l0_2 a0_3 a0_4 a0_5 a0_6 true _ ?side1 ?side2 A2.out).mono ?_); (case side1 => exact zz54); (case side2 => exact zz0); rintro e w6 ⟨rfl, hb⟩; refine ⟨_, rfl, ?_⟩; refine qs2 (blk_below (qb BK353.out) hb) (below_step zz33 hb) ?_; clear BK353 HB; intro BK353 HB; (try clear hb); (try clear hb2); (try clear hk); (try clear hi)))
  go_loopg [4, 5] k (fun kq v4 v5 w' => ∃ (x4_1 : ByteArray) (x5_1 : Int), v4 = .string x4_1 ∧ v5 = .int .i64 x5_1 ∧ Aside0 (spec_FormatConsole.l0 kq x4_1 x5_1 a0_0 a0_1 l0_2 a0_3 a0_4 a0_5 a0_6 = some (r1, r2)) ∧ Aside0 (kq ≤ k) ∧ Aside0 (w'.heap[gb353]? = some (.cells #[.int .i64 a0_0, .int .i64 a0_1, (.slice A0_2 l0_2.length c0_2), .int .i64 a0_3, .string a0_4, .string a0_5, .int .i64 a0_6] 54 (0, 0))) ∧ Aside0 (Below w.heap.size w w'))
  case atStart => exact ⟨((⟨#[]⟩ : ByteArray)), (0), zz4, zz4, H', ⟨Nat.le_refl _⟩, ⟨by (with_reducible repeat (first | refine blk_drewN ?_ _ | refine blk_drew ?_ | refine blk_alloc ?_ _)); exact BK353.out⟩, ⟨zz33⟩⟩
  case round =>
    clear H'
    try clear c2
    try clear p2
    try clear c3
    try clear c4
    try clear hcz5_0
    try clear hcz5_1
    try clear hcz5_2
    try clear hcz5_3
    try clear hcz5_4
    try clear hcz5_5
    try clear hcz5_6
    try clear hfz5_0
    try clear hfz5_1
    try clear hfz5_2
    try clear hfz5_3
    try clear hfz5_4
    try clear hfz5_5
    try clear hfz5_6
    obtain ⟨x4_1, x5_1, rfl, rfl, HA, HK1, BK353, HB⟩ := hrel
    cases gk with
    | zero => exact absurd HA.out (by simp [spec_FormatConsole.l0])
    | succ k1 =>
      have H := HA.out
      clear HA
      simp only [spec_FormatConsole.l0] at H
      by_cases c7 : x5_1 < (l0_2.length : Int)
      · rw [if_pos c7] at H
        have c7b0 := decide_eq_true c7
        clear c7
        replace H := Option.bind_eq_some_iff.mp H
        obtain ⟨t355, A80, H⟩ := H
        (try dsimp only at H)
        have A8 := Aside0.mk A80
        clear A80
        by_cases c9 : x4_1.size + t355.size ≤ 9223372036854775807
        rotate_left
        · rw [if_neg c9] at H
          exact absurd H (by simp)
        rw [if_pos c9] at H
        have c9b0 := eq_true c9
        have c9b1 := decide_eq_true c9
        try have c9b2 := eq_false (Nat.not_lt.2 c9)
        clear c9
        by_cases c10 : (cat x4_1 t355).size + 2 ≤ 9223372036854775807
        rotate_left
        · rw [if_neg c10] at H
          exact absurd H (by simp)
        rw [if_pos c10] at H
        have c10b0 := eq_true c10
        have c10b1 := decide_eq_true c10
        try have c10b2 := eq_false (Nat.not_lt.2 c10)
        clear c10
        by_cases c11 : 0 ≤ x5_1
        rotate_left
        · rw [if_neg c11] at H
          exact absurd H (by simp)
        rw [if_pos c11] at H
        have c11b0 := decide_eq_true c11
        clear c11
        replace H := Option.bind_eq_some_iff.mp H
        obtain ⟨t357, A120, H⟩ := H
        (try dsimp only at H)
        have A12 := Aside0.mk A120
        clear A120
        by_cases c13 : (cat (cat x4_1 t355) (⟨#[58, 32]⟩ : ByteArray)).size + t357.size ≤ 9223372036854775807
        rotate_left
        · rw [if_neg c13] at H
          exact absurd H (by simp)
        rw [if_pos c13] at H
        have c13b0 := eq_true c13
        have c13b1 := decide_eq_true c13
        try have c13b2 := eq_false (Nat.not_lt.2 c13)
        clear c13
        by_cases c14 : (cat (cat (cat x4_1 t355) (⟨#[58, 32]⟩ : ByteArray)) t357).size + 1 ≤ 9223372036854775807
        rotate_left
        · rw [if_neg c14] at H
          exact absurd H (by simp)
        rw [if_pos c14] at H
        have c14b0 := eq_true c14
        have c14b1 := decide_eq_true c14
        try have c14b2 := eq_false (Nat.not_lt.2 c14)
        clear c14
        have H' := Aside0.mk H
        clear H
        obtain ⟨hcz15_0, hcz15_1, hcz15_2, hcz15_3, hcz15_4, hcz15_5, hcz15_6, hfz15_0, hfz15_1, hfz15_2, hfz15_3, hfz15_4, hfz15_5, hfz15_6⟩ := qc7 BK353.out
        try go_wp2
        refine qs2 (blk_drew BK353.out) (below_drew1 HB.out) ?_; clear BK353 HB; intro BK353 HB
        have p356 : 0 ≤ (x5_1 : Int) := of_decide_eq_true zz5
        have q356 : x5_1 < (l0_2.length : Int) := of_decide_eq_true zz5
        obtain ⟨ad356, e356, hx356_0, hx356_1, hx356_2, hx356_3, hx356_4⟩ := at_T62 HR0_2.out x5_1 p356 q356
        have hw356_4 := hx356_4
        have hw356_3 := hx356_3
        have hw356_2 := hx356_2
        have hw356_1 := hx356_1
        have hw356_0 := hx356_0
        cases e356
        replace hx356_0 := (HB.out.cell (World.block_lt_of_cell? w _ hx356_0)).trans hx356_0
        replace hx356_1 := (HB.out.cell (World.block_lt_of_cell? w _ hx356_1)).trans hx356_1
        replace hx356_2 := (HB.out.cell (World.block_lt_of_cell? w _ hx356_2)).trans hx356_2
        replace hx356_3 := (HB.out.cell (World.block_lt_of_cell? w _ hx356_3)).trans hx356_3
        replace hx356_4 := (HB.out.cell (World.block_lt_of_cell? w _ hx356_4)).trans hx356_4
        replace p356 := eq_true p356
        replace q356 := eq_true q356
        refine start_ (n := 15) (S := fun w' => w'.cell? ⟨gb353, 0, none⟩ = some (.int .i64 a0_0) ∧ w'.cell? ⟨gb353, 1, none⟩ = some (.int .i64 a0_1) ∧ w'.cell? ⟨gb353, 2, none⟩ = some (.slice (some ad356) l0_2.length c0_2) ∧ w'.cell? ⟨gb353, 3, none⟩ = some (.int .i64 a0_3) ∧ w'.cell? ⟨gb353, 4, none⟩ = some (.string a0_4) ∧ w'.cell? ⟨gb353, 5, none⟩ = some (.string a0_5) ∧ w'.cell? ⟨gb353, 6, none⟩ = some (.int .i64 a0_6) ∧ w'.cell? (ad356.add ((x5_1).toNat * 5)) = some (.int .i64 ((rd_T62 l0_2 x5_1).f0)) ∧ w'.cell? ⟨(ad356.add ((x5_1).toNat * 5)).block, (ad356.add ((x5_1).toNat * 5)).off + 1, none⟩ = some (.int .i64 ((rd_T62 l0_2 x5_1).f1)) ∧ w'.cell? ⟨(ad356.add ((x5_1).toNat * 5)).block, (ad356.add ((x5_1).toNat * 5)).off + 2, none⟩ = some (.int .i64 ((rd_T62 l0_2 x5_1).f2)) ∧ w'.cell? ⟨(ad356.add ((x5_1).toNat * 5)).block, (ad356.add ((x5_1).toNat * 5)).off + 3, none⟩ = some (.int .i64 ((rd_T62 l0_2 x5_1).f3)) ∧ w'.cell? ⟨(ad356.add ((x5_1).toNat * 5)).block, (ad356.add ((x5_1).toNat * 5)).off + 4, none⟩ = some (.int .i64 ((rd_T62 l0_2 x5_1).f4))) (ds := []) #[false, false, false, false, false, false, false, false, false, false, false, false, false, false, false] (by kernel_rfl) rfl rfl ⟨(blk_cell BK353.out 0).trans rfl, (blk_cell BK353.out 1).trans rfl, (blk_cell BK353.out 2).trans rfl, (blk_cell BK353.out 3).trans rfl, (blk_cell BK353.out 4).trans rfl, (blk_cell BK353.out 5).trans rfl, (blk_cell BK353.out 6).trans rfl, ((HB.out.cell (World.block_lt_of_cell? w _ hw356_0)).trans hw356_0), ((HB.out.cell (World.block_lt_of_cell? w _ hw356_1)).trans hw356_1), ((HB.out.cell (World.block_lt_of_cell? w _ hw356_2)).trans hw356_2), ((HB.out.cell (World.block_lt_of_cell? w _ hw356_3)).trans hw356_3), ((HB.out.cell (World.block_lt_of_cell? w _ hw356_4)).trans hw356_4)⟩ (fun hHeld => ?_); refine with_tabW spec_FormatConsole.tab7 spec_FormatConsole.bits7 (fun HT_ HW_ => ?_)
        generalize wr.drew = w16 at BK353 HB hx356_0 hx356_1 hx356_2 hx356_3 hx356_4 hHeld ⊢
        refine qp 0 17 ?_; refine qp 1 18 ?_; refine qp 5 22 ?_; refine qp 6 23 ?_; refine qp 8 25 ?_; refine qt12 7 24 ?_; refine qp 9 26 ?_; refine qt12 10 27 ?_
        refine one_ (i := 2) (N := some 19) #[true, true, true, false, false, true, true, true, true, true, true, false, false, false, false] rfl rfl (one_of HT_.out (by kernel_rfl)) (by decide) (fun K hK => ?_)
        refine goes_ Tryd.func52 (by kernel_rfl) rfl #[.int .i64 x5_1] (by rfl) rfl rfl zz21 ?_
        with_reducible refine (spec_l1Num.calls x5_1 t355 _ A8.out).mono ?_
        rintro e w17 ⟨rfl, hb⟩
        refine ⟨_, rfl, ?_⟩
        refine qs2 (blk_below (qb BK353.out) hb) (below_step zz33 hb) ?_; clear BK353 HB; intro BK353 HB
        (try clear hb)
        (try clear hb2)
        (try clear hk)
        (try clear hi)
        refine hK.out _ _ ⟨(blk_cell BK353.out 0).trans rfl, (blk_cell BK353.out 1).trans rfl, (blk_cell BK353.out 2).trans rfl, (blk_cell BK353.out 3).trans rfl, (blk_cell BK353.out 4).trans rfl, (blk_cell BK353.out 5).trans rfl, (blk_cell BK353.out 6).trans rfl, ((HB.out.cell (World.block_lt_of_cell? w _ hw356_0)).trans hw356_0), ((HB.out.cell (World.block_lt_of_cell? w _ hw356_1)).trans hw356_1), ((HB.out.cell (World.block_lt_of_cell? w _ hw356_2)).trans hw356_2), ((HB.out.cell (World.block_lt_of_cell? w _ hw356_3)).trans hw356_3), ((HB.out.cell (World.block_lt_of_cell? w _ hw356_4)).trans hw356_4)⟩ (fun hHeld => ?_)
        clear hK K
        refine norm_ (a' := ?_) ?_ ?_
        rotate_left
        · show Act.put _ (some 19) _ = _
          simp only [Act.put, List.setIfInBounds_toArray, List.set_cons_zero, List.set_cons_succ, i64_w, i32_w]
          rfl
        refine qp 3 20 ?_; refine qp 4 21 ?_
        refine one_ (i := 11) (N := some 28) #[true, true, true, true, true, true, true, true, true, true, true, true, false, false, false] rfl rfl (one_of HT_.out (by kernel_rfl)) (by decide) (fun K hK => ?_)
        refine goes_ Tryd.func43 (by kernel_rfl) rfl #[.agg #[.int .i64 ((rd_T62 l0_2 x5_1).f0), .int .i64 ((rd_T62 l0_2 x5_1).f1), .int .i64 ((rd_T62 l0_2 x5_1).f2), .int .i64 ((rd_T62 l0_2 x5_1).f3), .int .i64 ((rd_T62 l0_2 x5_1).f4)]] (by rfl) rfl rfl zz21 ?_
        with_reducible refine (spec_l25Text.calls ((rd_T62 l0_2 x5_1).f0) ((rd_T62 l0_2 x5_1).f1) ((rd_T62 l0_2 x5_1).f2) ((rd_T62 l0_2 x5_1).f3) ((rd_T62 l0_2 x5_1).f4) t357 _ A12.out).mono ?_
        rintro e w18 ⟨rfl, hb⟩
        refine ⟨_, rfl, ?_⟩
        refine qs2 (blk_below (qb BK353.out) hb) (below_step zz33 hb) ?_; clear BK353 HB; intro BK353 HB
        (try clear hb)
        (try clear hb2)
        (try clear hk)
        (try clear hi)
        refine hK.out _ _ ⟨(blk_cell BK353.out 0).trans rfl, (blk_cell BK353.out 1).trans rfl, (blk_cell BK353.out 2).trans rfl, (blk_cell BK353.out 3).trans rfl, (blk_cell BK353.out 4).trans rfl, (blk_cell BK353.out 5).trans rfl, (blk_cell BK353.out 6).trans rfl, ((HB.out.cell (World.block_lt_of_cell? w _ hw356_0)).trans hw356_0), ((HB.out.cell (World.block_lt_of_cell? w _ hw356_1)).trans hw356_1), ((HB.out.cell (World.block_lt_of_cell? w _ hw356_2)).trans hw356_2), ((HB.out.cell (World.block_lt_of_cell? w _ hw356_3)).trans hw356_3), ((HB.out.cell (World.block_lt_of_cell? w _ hw356_4)).trans hw356_4)⟩ (fun hHeld => ?_)
        clear hK K
        refine norm_ (a' := ?_) ?_ ?_
        rotate_left
        · show Act.put _ (some 28) _ = _
          simp only [Act.put, List.setIfInBounds_toArray, List.set_cons_zero, List.set_cons_succ, i64_w, i32_w]
          rfl
        refine qp 12 29 ?_; refine qp 13 30 ?_; refine qp 14 4 ?_
        refine done_ (done_of HT_.out (by kernel_rfl)) ?_
        try go_wp2
        go_roundg k1
        case measure => have := HK1.out; omega
        case rel => exact ⟨(cat (cat (cat (cat x4_1 t355) (⟨#[58, 32]⟩ : ByteArray)) t357) (⟨#[10]⟩ : ByteArray)), (wrap64 (x5_1 + 1)), zz4, zz4, H', ⟨zz1⟩, ⟨by (with_reducible repeat (first | refine blk_drewN ?_ _ | refine blk_drew ?_ | refine blk_alloc ?_ _)); exact BK353.out⟩, ⟨zz33⟩⟩
      rw [if_neg c7] at H
      have c7b0 := decide_eq_false c7
      clear c7
      by_cases c19 : x4_1.size + 4 ≤ 9223372036854775807
      rotate_left
      · rw [if_neg c19] at H
        exact absurd H (by simp)
      rw [if_pos c19] at H
      have c19b0 := eq_true c19
      have c19b1 := decide_eq_true c19
      try have c19b2 := eq_false (Nat.not_lt.2 c19)
      clear c19
      replace H := Option.bind_eq_some_iff.mp H
      obtain ⟨t358, A200, H⟩ := H
      (try dsimp only at H)
      have A20 := Aside0.mk A200
      clear A200
      by_cases c21 : (cat x4_1 (⟨#[100, 97, 121, 32]⟩ : ByteArray)).size + t358.size ≤ 9223372036854775807
      rotate_left
      · rw [if_neg c21] at H
        exact absurd H (by simp)
      rw [if_pos c21] at H
      have c21b0 := eq_true c21
      have c21b1 := decide_eq_true c21
      try have c21b2 := eq_false (Nat.not_lt.2 c21)
      clear c21
      by_cases c22 : (cat (cat x4_1 (⟨#[100, 97, 121, 32]⟩ : ByteArray)) t358).size + 8 ≤ 9223372036854775807
      rotate_left
      · rw [if_neg c22] at H
        exact absurd H (by simp)
      rw [if_pos c22] at H
      have c22b0 := eq_true c22
      have c22b1 := decide_eq_true c22
      try have c22b2 := eq_false (Nat.not_lt.2 c22)
      clear c22
      replace H := Option.bind_eq_some_iff.mp H
      obtain ⟨t359, A230, H⟩ := H
      (try dsimp only at H)
      have A23 := Aside0.mk A230
      clear A230
      by_cases c24 : (cat (cat (cat x4_1 (⟨#[100, 97, 121, 32]⟩ : ByteArray)) t358) (⟨#[59, 32, 109, 111, 110, 101, 121, 32]⟩ : ByteArray)).size + t359.size ≤ 9223372036854775807
      rotate_left
      · rw [if_neg c24] at H
        exact absurd H (by simp)
      rw [if_pos c24] at H
      have c24b0 := eq_true c24
      have c24b1 := decide_eq_true c24
      try have c24b2 := eq_false (Nat.not_lt.2 c24)
      clear c24
      by_cases c25 : (cat (cat (cat (cat x4_1 (⟨#[100, 97, 121, 32]⟩ : ByteArray)) t358) (⟨#[59, 32, 109, 111, 110, 101, 121, 32]⟩ : ByteArray)) t359).size + 10 ≤ 9223372036854775807
      rotate_left
      · rw [if_neg c25] at H
        exact absurd H (by simp)
      rw [if_pos c25] at H
      have c25b0 := eq_true c25
      have c25b1 := decide_eq_true c25
      try have c25b2 := eq_false (Nat.not_lt.2 c25)
      clear c25
      replace H := Option.bind_eq_some_iff.mp H
      obtain ⟨t360, A260, H⟩ := H
      (try dsimp only at H)
      have A26 := Aside0.mk A260
      clear A260
      by_cases c27 : (cat (cat (cat (cat (cat x4_1 (⟨#[100, 97, 121, 32]⟩ : ByteArray)) t358) (⟨#[59, 32, 109, 111, 110, 101, 121, 32]⟩ : ByteArray)) t359) (⟨#[59, 32, 114, 101, 99, 111, 114, 100, 115, 32]⟩ : ByteArray)).size + t360.size ≤ 9223372036854775807
      rotate_left
      · rw [if_neg c27] at H
        exact absurd H (by simp)
      rw [if_pos c27] at H
      have c27b0 := eq_true c27
      have c27b1 := decide_eq_true c27
      try have c27b2 := eq_false (Nat.not_lt.2 c27)
      clear c27
      by_cases c28 : (cat (cat (cat (cat (cat (cat x4_1 (⟨#[100, 97, 121, 32]⟩ : ByteArray)) t358) (⟨#[59, 32, 109, 111, 110, 101, 121, 32]⟩ : ByteArray)) t359) (⟨#[59, 32, 114, 101, 99, 111, 114, 100, 115, 32]⟩ : ByteArray)) t360).size + 1 ≤ 9223372036854775807
      rotate_left
      · rw [if_neg c28] at H
        exact absurd H (by simp)
      rw [if_pos c28] at H
      have c28b0 := eq_true c28
      have c28b1 := decide_eq_true c28
      try have c28b2 := eq_false (Nat.not_lt.2 c28)
      clear c28
      simp only [Option.some.injEq, Prod.mk.injEq] at H
      obtain ⟨rfl, rfl⟩ := H
      obtain ⟨hcz29_0, hcz29_1, hcz29_2, hcz29_3, hcz29_4, hcz29_5, hcz29_6, hfz29_0, hfz29_1, hfz29_2, hfz29_3, hfz29_4, hfz29_5, hfz29_6⟩ := qc7 BK353.out
      try go_wp2
      refine qs2 (blk_drew BK353.out) (below_drew1 HB.out) ?_; clear BK353 HB; intro BK353 HB
      refine start_ (n := 22) (S := fun w' => w'.cell? ⟨gb353, 0, none⟩ = some (.int .i64 a0_0) ∧ w'.cell? ⟨gb353, 1, none⟩ = some (.int .i64 a0_1) ∧ w'.cell? ⟨gb353, 2, none⟩ = some (.slice A0_2 l0_2.length c0_2) ∧ w'.cell? ⟨gb353, 3, none⟩ = some (.int .i64 a0_3) ∧ w'.cell? ⟨gb353, 4, none⟩ = some (.string a0_4) ∧ w'.cell? ⟨gb353, 5, none⟩ = some (.string a0_5) ∧ w'.cell? ⟨gb353, 6, none⟩ = some (.int .i64 a0_6)) (ds := []) #[false, false, false, false, false, false, false, false, false, false, false, false, false, false, false, false, false, false, false, false, false, false] (by kernel_rfl) rfl rfl ⟨(blk_cell BK353.out 0).trans rfl, (blk_cell BK353.out 1).trans rfl, (blk_cell BK353.out 2).trans rfl, (blk_cell BK353.out 3).trans rfl, (blk_cell BK353.out 4).trans rfl, (blk_cell BK353.out 5).trans rfl, (blk_cell BK353.out 6).trans rfl⟩ (fun hHeld => ?_); refine with_tabW spec_FormatConsole.tab8 spec_FormatConsole.bits8 (fun HT_ HW_ => ?_)
      generalize wr.drew = w30 at BK353 HB hHeld ⊢
      refine qp 0 31 ?_; refine qp 1 32 ?_; refine qp 2 33 ?_; refine qp 3 34 ?_; refine qp 8 39 ?_; refine qp 9 40 ?_; refine qp 14 45 ?_; refine qp 15 46 ?_; refine qt7 4 35 ?_; refine qt7 10 41 ?_; refine qt7 16 47 ?_
      refine one_ (i := 5) (N := some 36) #[true, true, true, true, true, true, false, false, true, true, true, false, false, false, true, true, true, false, false, false, false, false] rfl rfl (one_of HT_.out (by kernel_rfl)) (by decide) (fun K hK => ?_)
      refine goes_ Tryd.func52 (by kernel_rfl) rfl #[.int .i64 a0_0] (by rfl) rfl rfl zz21 ?_
      with_reducible refine (spec_l1Num.calls a0_0 t358 _ A20.out).mono ?_
      rintro e w31 ⟨rfl, hb⟩
      refine ⟨_, rfl, ?_⟩
      refine qs2 (blk_below (qb BK353.out) hb) (below_step zz33 hb) ?_; clear BK353 HB; intro BK353 HB
      (try clear hb)
      (try clear hb2)
      (try clear hk)
      (try clear hi)
      refine hK.out _ _ ⟨(blk_cell BK353.out 0).trans rfl, (blk_cell BK353.out 1).trans rfl, (blk_cell BK353.out 2).trans rfl, (blk_cell BK353.out 3).trans rfl, (blk_cell BK353.out 4).trans rfl, (blk_cell BK353.out 5).trans rfl, (blk_cell BK353.out 6).trans rfl⟩ (fun hHeld => ?_)
      clear hK K
      refine norm_ (a' := ?_) ?_ ?_
      rotate_left
      · show Act.put _ (some 36) _ = _
        simp only [Act.put, List.setIfInBounds_toArray, List.set_cons_zero, List.set_cons_succ, i64_w, i32_w]
        rfl
      refine qp 6 37 ?_; refine qp 7 38 ?_
      refine one_ (i := 11) (N := some 42) #[true, true, true, true, true, true, true, true, true, true, true, true, false, false, true, true, true, false, false, false, false, false] rfl rfl (one_of HT_.out (by kernel_rfl)) (by decide) (fun K hK => ?_)
      refine goes_ Tryd.func52 (by kernel_rfl) rfl #[.int .i64 a0_3] (by rfl) rfl rfl zz21 ?_
      with_reducible refine (spec_l1Num.calls a0_3 t359 _ A23.out).mono ?_
      rintro e w32 ⟨rfl, hb⟩
      refine ⟨_, rfl, ?_⟩
      refine qs2 (blk_below (qb BK353.out) hb) (below_step zz33 hb) ?_; clear BK353 HB; intro BK353 HB
      (try clear hb)
      (try clear hb2)
      (try clear hk)
      (try clear hi)
      refine hK.out _ _ ⟨(blk_cell BK353.out 0).trans rfl, (blk_cell BK353.out 1).trans rfl, (blk_cell BK353.out 2).trans rfl, (blk_cell BK353.out 3).trans rfl, (blk_cell BK353.out 4).trans rfl, (blk_cell BK353.out 5).trans rfl, (blk_cell BK353.out 6).trans rfl⟩ (fun hHeld => ?_)
      clear hK K
      refine norm_ (a' := ?_) ?_ ?_
      rotate_left
      · show Act.put _ (some 42) _ = _
        simp only [Act.put, List.setIfInBounds_toArray, List.set_cons_zero, List.set_cons_succ, i64_w, i32_w]
        rfl
      refine qp 12 43 ?_; refine qp 13 44 ?_
      refine one_ (i := 17) (N := some 48) #[true, true, true, true, true, true, true, true, true, true, true, true, true, true, true, true, true, true, false, false, false, false] rfl rfl (one_of HT_.out (by kernel_rfl)) (by decide) (fun K hK => ?_)
      refine goes_ Tryd.func52 (by kernel_rfl) rfl #[.int .i64 a0_6] (by rfl) rfl rfl zz21 ?_
      with_reducible refine (spec_l1Num.calls a0_6 t360 _ A26.out).mono ?_
      rintro e w33 ⟨rfl, hb⟩
      refine ⟨_, rfl, ?_⟩
      refine qs2 (blk_below (qb BK353.out) hb) (below_step zz33 hb) ?_; clear BK353 HB; intro BK353 HB
      (try clear hb)
      (try clear hb2)
      (try clear hk)
      (try clear hi)
      refine hK.out _ _ ⟨(blk_cell BK353.out 0).trans rfl, (blk_cell BK353.out 1).trans rfl, (blk_cell BK353.out 2).trans rfl, (blk_cell BK353.out 3).trans rfl, (blk_cell BK353.out 4).trans rfl, (blk_cell BK353.out 5).trans rfl, (blk_cell BK353.out 6).trans rfl⟩ (fun hHeld => ?_)
      clear hK K
      refine norm_ (a' := ?_) ?_ ?_
      rotate_left
      · show Act.put _ (some 48) _ = _
        simp only [Act.put, List.setIfInBounds_toArray, List.set_cons_zero, List.set_cons_succ, i64_w, i32_w]
        rfl
      refine qp 18 49 ?_; refine qp 19 50 ?_; refine qp 20 2 ?_; refine qp 21 3 ?_
      refine done_ (done_of HT_.out (by kernel_rfl)) ?_
      try go_wp2
      go_ret2
      exact ⟨zz9, zz33⟩

end

/-! ### impl_CarpetText: function 22 (by hand) -/
theorem wp_gen {c : Code} {P : Program} {Q : Exit → Act → World → Prop} {a : Act} {w : World} (S : World → Prop) (h : S w) (k : ∀ w', S w' → c.wp P Q a w') : c.wp P Q a w := k w h
section
attribute [local go_sem high] run_add_cat run_slice_cat run_slice_cat_h run_slice_cat_l run_slice_cat_all
set_option maxHeartbeats 4000000 in
set_option maxRecDepth 100000 in
theorem impl_CarpetText.walk (k : Nat) (a0_0 a0_1 : Int) (ad : Addr) (c0_2 : Nat) (l0_2 : List S62) (a0_3 : Int) (a1 : Int) (x0 x1 x2 x3 x4 : Int) (nm : ByteArray) (t1 t2 : ByteArray) (w : World) (hr0_2 : Kd.C k62 w (some ad) l0_2.length l0_2) (hc0_2 : l0_2.length ≤ c0_2) (hG : Gl w)
    (hsh : impl_IsShop.f k a0_0 a0_1 l0_2 a0_3 = some true) (h0 : 0 ≤ a1) (h1 : a1 < (l0_2.length : Int)) (hin : impl_in.f a1 0 ((l0_2.length : Int) - 1) = some true)
    (hx0 : w.cell? (ad.add (a1.toNat * 5)) = some (.int .i64 x0)) (hx1 : w.cell? ⟨(ad.add (a1.toNat * 5)).block, (ad.add (a1.toNat * 5)).off + 1, none⟩ = some (.int .i64 x1))
    (hx2 : w.cell? ⟨(ad.add (a1.toNat * 5)).block, (ad.add (a1.toNat * 5)).off + 2, none⟩ = some (.int .i64 x2)) (hx3 : w.cell? ⟨(ad.add (a1.toNat * 5)).block, (ad.add (a1.toNat * 5)).off + 3, none⟩ = some (.int .i64 x3))
    (hx4 : w.cell? ⟨(ad.add (a1.toNat * 5)).block, (ad.add (a1.toNat * 5)).off + 4, none⟩ = some (.int .i64 x4)) (hlt : ad.block < w.heap.size)
    (ht1 : impl_decimal.f x1 = some t1) (ht2 : impl_decimal.f x0 = some t2) (hx20 : 0 ≤ x2) (hx25 : x2 < 5) (hnm : (#[.string (⟨#[119, 97, 105, 116, 115]⟩ : ByteArray), .string (⟨#[119, 111, 118, 101, 110]⟩ : ByteArray), .string (⟨#[111, 102, 102]⟩ : ByteArray), .string (⟨#[119, 97, 115, 104, 101, 100]⟩ : ByteArray), .string (⟨#[115, 111, 108, 100]⟩ : ByteArray)] : Array Value)[x2.toNat]? = some (.string nm)) (hsz : nm.size ≤ 6) (hs1 : nm.size + 1 + t1.size ≤ 9223372036854775807) (hs2 : nm.size + 1 + t1.size + 1 + t2.size ≤ 9223372036854775807) (hlo : ¬ x3 > 0) :
    Calls Tryd.prog 22 #[.agg #[.int .i64 a0_0, .int .i64 a0_1, .slice (some ad) l0_2.length c0_2, .int .i64 a0_3], .int .i64 a1] w fun e w' => e = .returned (.tuple #[.string (cat (cat (cat (cat nm ⟨#[32]⟩) t1) ⟨#[47]⟩) t2), .bool true]) ∧ Below w.heap.size w w' := by
  have huS := Tryd.underlying26
  have hcon := impl_IsShop.calls k a0_0 a0_1 (some ad) c0_2 l0_2 a0_3 true (w.alloc (.cells #[.int .i64 a0_0, .int .i64 a0_1, .slice (some ad) l0_2.length c0_2, .int .i64 a0_3] 26)) (Kd.C_alloc hr0_2 _) hc0_2 hsh
  have hd := fun W => impl_in.calls a1 0 ((l0_2.length : Int) - 1) true W hin
  have HADB := Aside0.mk (show (ad.add (a1.toNat * 5)).block = ad.block by unfold Addr.add; split <;> rfl)
  have hwr : wrap64 ((l0_2.length : Int) - 1) = (l0_2.length : Int) - 1 := by have := hr0_2.2.1; unfold wrap64; omega
  have hlen : (0 ≤ a1 ∧ a1 < (l0_2.length : Int)) = True := eq_true ⟨h0, h1⟩
  clear hr0_2 hsh hin
  go_enter Tryd.func22, Tryd.ntmps22
  go_upto_region 5 with (first | (go_at_call 32; refine hcon.mono ?_; rintro e w' ⟨rfl, hb⟩; have hz : w.heap.size < w'.heap.size := Nat.lt_of_lt_of_le (by simp) hb.size; have b0 : w'.cell? ⟨w.heap.size, 0, none⟩ = some (.int .i64 a0_0) := (hb.cell (p := ⟨w.heap.size, 0, none⟩) (by simp)).trans (by simp); have b1 : w'.cell? ⟨w.heap.size, 1, none⟩ = some (.int .i64 a0_1) := (hb.cell (p := ⟨w.heap.size, 1, none⟩) (by simp)).trans (by simp); have b2 : w'.cell? ⟨w.heap.size, 2, none⟩ = some (.slice (some ad) l0_2.length c0_2) := (hb.cell (p := ⟨w.heap.size, 2, none⟩) (by simp)).trans (by simp); have b3 : w'.cell? ⟨w.heap.size, 3, none⟩ = some (.int .i64 a0_3) := (hb.cell (p := ⟨w.heap.size, 3, none⟩) (by simp)).trans (by simp); have hB := (below_alloc (Below.refl w.heap.size w) (.cells #[.int .i64 a0_0, .int .i64 a0_1, .slice (some ad) l0_2.length c0_2, .int .i64 a0_3] 26)).trans (hb.mono (by simp)); have y0 := (hB.cell (p := ad.add (a1.toNat * 5)) (by rw [HADB.out]; exact hlt)).trans hx0; have y1 := (hB.cell (p := ⟨(ad.add (a1.toNat * 5)).block, (ad.add (a1.toNat * 5)).off + 1, none⟩) (by rw [HADB.out]; exact hlt)).trans hx1; have y2 := (hB.cell (p := ⟨(ad.add (a1.toNat * 5)).block, (ad.add (a1.toNat * 5)).off + 2, none⟩) (by rw [HADB.out]; exact hlt)).trans hx2; have y3 := (hB.cell (p := ⟨(ad.add (a1.toNat * 5)).block, (ad.add (a1.toNat * 5)).off + 3, none⟩) (by rw [HADB.out]; exact hlt)).trans hx3; have y4 := (hB.cell (p := ⟨(ad.add (a1.toNat * 5)).block, (ad.add (a1.toNat * 5)).off + 4, none⟩) (by rw [HADB.out]; exact hlt)).trans hx4; have HB := Aside0.mk hB; clear hb hB) | (go_at_call 40; (try rw [hwr]); refine (hd _).mono ?_; rintro e w'' ⟨rfl, ⟨⟨q, rfl⟩⟩⟩; have HB2 := Aside0.mk (pw_below_drewN HB.out q); have HZ := Aside0.mk (show w.heap.size < (w'.drewN q).heap.size from hz); clear hz) | ((with_reducible refine gate_dst (N := 6) rfl ?_); refine qbox (N := 6) (cs := #[.int .i64 0, .int .i64 0, .int .i64 0, .int .i64 0, .int .i64 0]) (t := 62) ?_; intro g6 hg6 w6 hbox6 hb6; have GE6 := Aside0.mk (show w.heap.size ≤ g6 from by rw [hg6]; exact Nat.le_of_lt HZ.out); have HB6 := Aside0.mk (below_step HB2.out hb6); have BK6 := Aside0.mk hbox6; have hcz0 : w6.cell? ⟨g6, 0, none⟩ = some (.int .i64 0) := (blk_cell hbox6 0).trans rfl; have hcz1 : w6.cell? ⟨g6, 1, none⟩ = some (.int .i64 0) := (blk_cell hbox6 1).trans rfl; have hcz2 : w6.cell? ⟨g6, 2, none⟩ = some (.int .i64 0) := (blk_cell hbox6 2).trans rfl; have hcz3 : w6.cell? ⟨g6, 3, none⟩ = some (.int .i64 0) := (blk_cell hbox6 3).trans rfl; have hcz4 : w6.cell? ⟨g6, 4, none⟩ = some (.int .i64 0) := (blk_cell hbox6 4).trans rfl; have hfz0 := blk_frozen hbox6 0; have hfz1 := blk_frozen hbox6 1; have hfz2 := blk_frozen hbox6 2; have hfz3 := blk_frozen hbox6 3; have hfz4 := blk_frozen hbox6 4; clear hb6 hbox6 hg6) | ((with_reducible refine gate_dst (N := 7) rfl ?_); refine qbox (N := 7) (cs := #[.string (⟨#[]⟩ : ByteArray), .string (⟨#[]⟩ : ByteArray), .string (⟨#[]⟩ : ByteArray), .string (⟨#[]⟩ : ByteArray), .string (⟨#[]⟩ : ByteArray)]) (t := 72) ?_; intro g7 hg7 w7 hbox7 hb7; have P6 := Aside0.mk ((blk_put (cs := #[.int .i64 x0, .int .i64 x1, .int .i64 x2, .int .i64 x3, .int .i64 0]) (blk_put (cs := #[.int .i64 x0, .int .i64 x1, .int .i64 x2, .int .i64 0, .int .i64 0]) (blk_put (cs := #[.int .i64 x0, .int .i64 x1, .int .i64 0, .int .i64 0, .int .i64 0]) (blk_put (cs := #[.int .i64 x0, .int .i64 0, .int .i64 0, .int .i64 0, .int .i64 0]) (blk_put (cs := #[.int .i64 0, .int .i64 0, .int .i64 0, .int .i64 0, .int .i64 0]) BK6.out 0 (.int .i64 x0) rfl) 1 (.int .i64 x1) rfl) 2 (.int .i64 x2) rfl) 3 (.int .i64 x3) rfl) 4 (.int .i64 x4) rfl)); have NE := Aside0.mk (show g6 ≠ g7 from by rw [hg7]; exact Nat.ne_of_lt (blk_lt P6.out)); have HB7 := Aside0.mk (below_step (below_set (below_set (below_set (below_set (below_set HB6.out GE6.out) GE6.out) GE6.out) GE6.out) GE6.out) hb7); have Q6 := Aside0.mk (blk_below P6.out hb7); have GE7 := Aside0.mk (show w.heap.size ≤ g7 from by rw [hg7]; exact Nat.le_trans GE6.out (Nat.le_of_lt (blk_lt P6.out))); have BK7 := Aside0.mk hbox7; have hdz0 : w7.cell? ⟨g7, 0, none⟩ = some (.string (⟨#[]⟩ : ByteArray)) := (blk_cell hbox7 0).trans rfl; have hdz1 : w7.cell? ⟨g7, 1, none⟩ = some (.string (⟨#[]⟩ : ByteArray)) := (blk_cell hbox7 1).trans rfl; have hdz2 : w7.cell? ⟨g7, 2, none⟩ = some (.string (⟨#[]⟩ : ByteArray)) := (blk_cell hbox7 2).trans rfl; have hdz3 : w7.cell? ⟨g7, 3, none⟩ = some (.string (⟨#[]⟩ : ByteArray)) := (blk_cell hbox7 3).trans rfl; have hdz4 : w7.cell? ⟨g7, 4, none⟩ = some (.string (⟨#[]⟩ : ByteArray)) := (blk_cell hbox7 4).trans rfl; have hez0 := blk_frozen hbox7 0; have hez1 := blk_frozen hbox7 1; have hez2 := blk_frozen hbox7 2; have hez3 := blk_frozen hbox7 3; have hez4 := blk_frozen hbox7 4; clear hb7 hbox7 hg7 P6))
  refine wp_gen (fun W => W.heap[g6]? = some (.cells #[.int .i64 x0, .int .i64 x1, .int .i64 x2, .int .i64 x3, .int .i64 x4] 62 (0, 0)) ∧ W.heap[g7]? = some (.cells #[.string (⟨#[119, 97, 105, 116, 115]⟩ : ByteArray), .string (⟨#[119, 111, 118, 101, 110]⟩ : ByteArray), .string (⟨#[111, 102, 102]⟩ : ByteArray), .string (⟨#[119, 97, 115, 104, 101, 100]⟩ : ByteArray), .string (⟨#[115, 111, 108, 100]⟩ : ByteArray)] 72 (0, 0)) ∧ Below w.heap.size w W) ⟨?_, ?_, ?_⟩ ?_
  · exact blk_far (blk_far (blk_far (blk_far (blk_far Q6.out NE.out _) NE.out _) NE.out _) NE.out _) NE.out _
  · exact blk_put (cs := #[.string (⟨#[119, 97, 105, 116, 115]⟩ : ByteArray), .string (⟨#[119, 111, 118, 101, 110]⟩ : ByteArray), .string (⟨#[111, 102, 102]⟩ : ByteArray), .string (⟨#[119, 97, 115, 104, 101, 100]⟩ : ByteArray), .string (⟨#[]⟩ : ByteArray)]) (blk_put (cs := #[.string (⟨#[119, 97, 105, 116, 115]⟩ : ByteArray), .string (⟨#[119, 111, 118, 101, 110]⟩ : ByteArray), .string (⟨#[111, 102, 102]⟩ : ByteArray), .string (⟨#[]⟩ : ByteArray), .string (⟨#[]⟩ : ByteArray)]) (blk_put (cs := #[.string (⟨#[119, 97, 105, 116, 115]⟩ : ByteArray), .string (⟨#[119, 111, 118, 101, 110]⟩ : ByteArray), .string (⟨#[]⟩ : ByteArray), .string (⟨#[]⟩ : ByteArray), .string (⟨#[]⟩ : ByteArray)]) (blk_put (cs := #[.string (⟨#[119, 97, 105, 116, 115]⟩ : ByteArray), .string (⟨#[]⟩ : ByteArray), .string (⟨#[]⟩ : ByteArray), .string (⟨#[]⟩ : ByteArray), .string (⟨#[]⟩ : ByteArray)]) (blk_put (cs := #[.string (⟨#[]⟩ : ByteArray), .string (⟨#[]⟩ : ByteArray), .string (⟨#[]⟩ : ByteArray), .string (⟨#[]⟩ : ByteArray), .string (⟨#[]⟩ : ByteArray)]) BK7.out 0 _ rfl) 1 _ rfl) 2 _ rfl) 3 _ rfl) 4 _ rfl
  · exact below_set (below_set (below_set (below_set (below_set HB7.out GE7.out) GE7.out) GE7.out) GE7.out) GE7.out
  clear Q6 BK7 HB7 BK6 HB6 HB2 HB NE
  intro W5 hW
  obtain ⟨B6, B7, HB⟩ := hW
  have c0 : W5.cell? ⟨g6, 0, none⟩ = some (.int .i64 x0) := (blk_cell B6 0).trans rfl
  have c1 : W5.cell? ⟨g6, 1, none⟩ = some (.int .i64 x1) := (blk_cell B6 1).trans rfl
  have c2 : W5.cell? ⟨g6, 2, none⟩ = some (.int .i64 x2) := (blk_cell B6 2).trans rfl
  have c3 : W5.cell? ⟨g6, 3, none⟩ = some (.int .i64 x3) := (blk_cell B6 3).trans rfl
  have d2 : W5.cell? ⟨g7, x2.toNat, none⟩ = some (.string nm) := (blk_cell B7 x2.toNat).trans hnm
  have hidx : (0 ≤ x2 ∧ x2 < 5) = True := eq_true ⟨hx20, hx25⟩
  have HBd := below_drew1 HB
  clear B6 B7 HB hx0 hx1 hx2 hx3 hx4
  clear b0 b1 b2 b3 y0 y1 y2 y3 y4 hcz0 hcz1 hcz2 hcz3 hcz4 hfz0 hfz1 hfz2 hfz3 hfz4 hdz0 hdz1 hdz2 hdz3 hdz4 hez0 hez1 hez2 hez3 hez4
  have z1 : (cat nm (⟨#[32]⟩ : ByteArray)).size = nm.size + 1 := by unfold cat; rw [ByteArray.size_append]; rfl
  have z2 : (cat (cat nm (⟨#[32]⟩ : ByteArray)) t1).size = nm.size + 1 + t1.size := by
    show (cat nm (⟨#[32]⟩ : ByteArray) ++ t1).size = _
    rw [ByteArray.size_append, z1]
  have z3 : (cat (cat (cat nm (⟨#[32]⟩ : ByteArray)) t1) (⟨#[47]⟩ : ByteArray)).size = nm.size + 1 + t1.size + 1 := by
    show (cat (cat nm (⟨#[32]⟩ : ByteArray)) t1 ++ (⟨#[47]⟩ : ByteArray)).size = _
    rw [ByteArray.size_append, z2]; rfl
  have e1 : (9223372036854775807 < nm.size + 1) = False := eq_false (by omega)
  have e2 : (9223372036854775807 < (cat nm (⟨#[32]⟩ : ByteArray)).size + t1.size) = False := eq_false (by omega)
  have e3 : (9223372036854775807 < (cat (cat nm (⟨#[32]⟩ : ByteArray)) t1).size + 1) = False := eq_false (by omega)
  have e4 : (9223372036854775807 < (cat (cat (cat nm (⟨#[32]⟩ : ByteArray)) t1) (⟨#[47]⟩ : ByteArray)).size + t2.size) = False := eq_false (by omega)
  clear hnm z1 z2 z3 hs1 hs2 hx20 hx25 hsz
  clear hcon hd
  go_region_held3 (fun w' => w'.cell? ⟨g6, 0, none⟩ = some (.int .i64 x0) ∧ w'.cell? ⟨g6, 1, none⟩ = some (.int .i64 x1) ∧ w'.cell? ⟨g6, 2, none⟩ = some (.int .i64 x2) ∧ w'.cell? ⟨g6, 3, none⟩ = some (.int .i64 x3) ∧ w'.cell? ⟨g7, x2.toNat, none⟩ = some (.string nm) ∧ Below w.heap.size w w') (first | exact ⟨c0, c1, c2, c3, d2, HBd⟩ | exact ⟨n0, n1, n2, n3, n4, nB⟩) (first | (go_at_call 41; obtain ⟨s0, s1, s2, s3, s4, sB⟩ := (by assumption : World.cell? _ ⟨g6, 0, none⟩ = _ ∧ World.cell? _ ⟨g6, 1, none⟩ = _ ∧ World.cell? _ ⟨g6, 2, none⟩ = _ ∧ World.cell? _ ⟨g6, 3, none⟩ = _ ∧ World.cell? _ ⟨g7, x2.toNat, none⟩ = _ ∧ Below _ _ _); (first | refine (impl_decimal.calls x1 t1 _ (Gl.below hG sB) ht1).mono ?_ | refine (impl_decimal.calls x0 t2 _ (Gl.below hG sB) ht2).mono ?_); rintro e w9 ⟨rfl, hb⟩; have n0 := pw_cell_below hb s0; have n1 := pw_cell_below hb s1; have n2 := pw_cell_below hb s2; have n3 := pw_cell_below hb s3; have n4 := pw_cell_below hb s4; have nB := below_step sB hb; clear s0 s1 s2 s3 s4 sB hb))
  go_wp2
  go_ret2
  exact ⟨rfl, by repeat (first | exact nB | apply below_alloc | apply pw_below_drewN | apply below_drew1)⟩
set_option maxHeartbeats 4000000 in
set_option maxRecDepth 100000 in
theorem impl_CarpetText.walk_lo (k : Nat) (a0_0 a0_1 : Int) (ad : Addr) (c0_2 : Nat) (l0_2 : List S62) (a0_3 : Int) (a1 : Int) (x0 x1 x2 x3 x4 : Int) (nm : ByteArray) (t1 t2 : ByteArray) (w : World) (hr0_2 : Kd.C k62 w (some ad) l0_2.length l0_2) (hc0_2 : l0_2.length ≤ c0_2) (hG : Gl w)
    (hsh : impl_IsShop.f k a0_0 a0_1 l0_2 a0_3 = some true) (h0 : 0 ≤ a1) (h1 : a1 < (l0_2.length : Int)) (hin : impl_in.f a1 0 ((l0_2.length : Int) - 1) = some true)
    (hx0 : w.cell? (ad.add (a1.toNat * 5)) = some (.int .i64 x0)) (hx1 : w.cell? ⟨(ad.add (a1.toNat * 5)).block, (ad.add (a1.toNat * 5)).off + 1, none⟩ = some (.int .i64 x1))
    (hx2 : w.cell? ⟨(ad.add (a1.toNat * 5)).block, (ad.add (a1.toNat * 5)).off + 2, none⟩ = some (.int .i64 x2)) (hx3 : w.cell? ⟨(ad.add (a1.toNat * 5)).block, (ad.add (a1.toNat * 5)).off + 3, none⟩ = some (.int .i64 x3))
    (hx4 : w.cell? ⟨(ad.add (a1.toNat * 5)).block, (ad.add (a1.toNat * 5)).off + 4, none⟩ = some (.int .i64 x4)) (hlt : ad.block < w.heap.size)
    (ht1 : impl_decimal.f x1 = some t1) (ht2 : impl_decimal.f x0 = some t2) (hx20 : 0 ≤ x2) (hx25 : x2 < 5) (hnm : (#[.string (⟨#[119, 97, 105, 116, 115]⟩ : ByteArray), .string (⟨#[119, 111, 118, 101, 110]⟩ : ByteArray), .string (⟨#[111, 102, 102]⟩ : ByteArray), .string (⟨#[119, 97, 115, 104, 101, 100]⟩ : ByteArray), .string (⟨#[115, 111, 108, 100]⟩ : ByteArray)] : Array Value)[x2.toNat]? = some (.string nm)) (hsz : nm.size ≤ 6) (hs1 : nm.size + 1 + t1.size ≤ 9223372036854775807) (hs2 : nm.size + 1 + t1.size + 1 + t2.size ≤ 9223372036854775807) (hlo : x3 > 0) (t3 : ByteArray) (ht3 : impl_decimal.f x3 = some t3) (hs3 : nm.size + 1 + t1.size + 1 + t2.size + (4 + t3.size) ≤ 9223372036854775807) :
    Calls Tryd.prog 22 #[.agg #[.int .i64 a0_0, .int .i64 a0_1, .slice (some ad) l0_2.length c0_2, .int .i64 a0_3], .int .i64 a1] w fun e w' => e = .returned (.tuple #[.string (cat (cat (cat (cat (cat nm ⟨#[32]⟩) t1) ⟨#[47]⟩) t2) (cat ⟨#[32, 111, 110, 32]⟩ t3)), .bool true]) ∧ Below w.heap.size w w' := by
  have huS := Tryd.underlying26
  have hcon := impl_IsShop.calls k a0_0 a0_1 (some ad) c0_2 l0_2 a0_3 true (w.alloc (.cells #[.int .i64 a0_0, .int .i64 a0_1, .slice (some ad) l0_2.length c0_2, .int .i64 a0_3] 26)) (Kd.C_alloc hr0_2 _) hc0_2 hsh
  have hd := fun W => impl_in.calls a1 0 ((l0_2.length : Int) - 1) true W hin
  have HADB := Aside0.mk (show (ad.add (a1.toNat * 5)).block = ad.block by unfold Addr.add; split <;> rfl)
  have hwr : wrap64 ((l0_2.length : Int) - 1) = (l0_2.length : Int) - 1 := by have := hr0_2.2.1; unfold wrap64; omega
  have hlen : (0 ≤ a1 ∧ a1 < (l0_2.length : Int)) = True := eq_true ⟨h0, h1⟩
  clear hr0_2 hsh hin
  go_enter Tryd.func22, Tryd.ntmps22
  go_upto_region 5 with (first | (go_at_call 32; refine hcon.mono ?_; rintro e w' ⟨rfl, hb⟩; have hz : w.heap.size < w'.heap.size := Nat.lt_of_lt_of_le (by simp) hb.size; have b0 : w'.cell? ⟨w.heap.size, 0, none⟩ = some (.int .i64 a0_0) := (hb.cell (p := ⟨w.heap.size, 0, none⟩) (by simp)).trans (by simp); have b1 : w'.cell? ⟨w.heap.size, 1, none⟩ = some (.int .i64 a0_1) := (hb.cell (p := ⟨w.heap.size, 1, none⟩) (by simp)).trans (by simp); have b2 : w'.cell? ⟨w.heap.size, 2, none⟩ = some (.slice (some ad) l0_2.length c0_2) := (hb.cell (p := ⟨w.heap.size, 2, none⟩) (by simp)).trans (by simp); have b3 : w'.cell? ⟨w.heap.size, 3, none⟩ = some (.int .i64 a0_3) := (hb.cell (p := ⟨w.heap.size, 3, none⟩) (by simp)).trans (by simp); have hB := (below_alloc (Below.refl w.heap.size w) (.cells #[.int .i64 a0_0, .int .i64 a0_1, .slice (some ad) l0_2.length c0_2, .int .i64 a0_3] 26)).trans (hb.mono (by simp)); have y0 := (hB.cell (p := ad.add (a1.toNat * 5)) (by rw [HADB.out]; exact hlt)).trans hx0; have y1 := (hB.cell (p := ⟨(ad.add (a1.toNat * 5)).block, (ad.add (a1.toNat * 5)).off + 1, none⟩) (by rw [HADB.out]; exact hlt)).trans hx1; have y2 := (hB.cell (p := ⟨(ad.add (a1.toNat * 5)).block, (ad.add (a1.toNat * 5)).off + 2, none⟩) (by rw [HADB.out]; exact hlt)).trans hx2; have y3 := (hB.cell (p := ⟨(ad.add (a1.toNat * 5)).block, (ad.add (a1.toNat * 5)).off + 3, none⟩) (by rw [HADB.out]; exact hlt)).trans hx3; have y4 := (hB.cell (p := ⟨(ad.add (a1.toNat * 5)).block, (ad.add (a1.toNat * 5)).off + 4, none⟩) (by rw [HADB.out]; exact hlt)).trans hx4; have HB := Aside0.mk hB; clear hb hB) | (go_at_call 40; (try rw [hwr]); refine (hd _).mono ?_; rintro e w'' ⟨rfl, ⟨⟨q, rfl⟩⟩⟩; have HB2 := Aside0.mk (pw_below_drewN HB.out q); have HZ := Aside0.mk (show w.heap.size < (w'.drewN q).heap.size from hz); clear hz) | ((with_reducible refine gate_dst (N := 6) rfl ?_); refine qbox (N := 6) (cs := #[.int .i64 0, .int .i64 0, .int .i64 0, .int .i64 0, .int .i64 0]) (t := 62) ?_; intro g6 hg6 w6 hbox6 hb6; have GE6 := Aside0.mk (show w.heap.size ≤ g6 from by rw [hg6]; exact Nat.le_of_lt HZ.out); have HB6 := Aside0.mk (below_step HB2.out hb6); have BK6 := Aside0.mk hbox6; have hcz0 : w6.cell? ⟨g6, 0, none⟩ = some (.int .i64 0) := (blk_cell hbox6 0).trans rfl; have hcz1 : w6.cell? ⟨g6, 1, none⟩ = some (.int .i64 0) := (blk_cell hbox6 1).trans rfl; have hcz2 : w6.cell? ⟨g6, 2, none⟩ = some (.int .i64 0) := (blk_cell hbox6 2).trans rfl; have hcz3 : w6.cell? ⟨g6, 3, none⟩ = some (.int .i64 0) := (blk_cell hbox6 3).trans rfl; have hcz4 : w6.cell? ⟨g6, 4, none⟩ = some (.int .i64 0) := (blk_cell hbox6 4).trans rfl; have hfz0 := blk_frozen hbox6 0; have hfz1 := blk_frozen hbox6 1; have hfz2 := blk_frozen hbox6 2; have hfz3 := blk_frozen hbox6 3; have hfz4 := blk_frozen hbox6 4; clear hb6 hbox6 hg6) | ((with_reducible refine gate_dst (N := 7) rfl ?_); refine qbox (N := 7) (cs := #[.string (⟨#[]⟩ : ByteArray), .string (⟨#[]⟩ : ByteArray), .string (⟨#[]⟩ : ByteArray), .string (⟨#[]⟩ : ByteArray), .string (⟨#[]⟩ : ByteArray)]) (t := 72) ?_; intro g7 hg7 w7 hbox7 hb7; have P6 := Aside0.mk ((blk_put (cs := #[.int .i64 x0, .int .i64 x1, .int .i64 x2, .int .i64 x3, .int .i64 0]) (blk_put (cs := #[.int .i64 x0, .int .i64 x1, .int .i64 x2, .int .i64 0, .int .i64 0]) (blk_put (cs := #[.int .i64 x0, .int .i64 x1, .int .i64 0, .int .i64 0, .int .i64 0]) (blk_put (cs := #[.int .i64 x0, .int .i64 0, .int .i64 0, .int .i64 0, .int .i64 0]) (blk_put (cs := #[.int .i64 0, .int .i64 0, .int .i64 0, .int .i64 0, .int .i64 0]) BK6.out 0 (.int .i64 x0) rfl) 1 (.int .i64 x1) rfl) 2 (.int .i64 x2) rfl) 3 (.int .i64 x3) rfl) 4 (.int .i64 x4) rfl)); have NE := Aside0.mk (show g6 ≠ g7 from by rw [hg7]; exact Nat.ne_of_lt (blk_lt P6.out)); have HB7 := Aside0.mk (below_step (below_set (below_set (below_set (below_set (below_set HB6.out GE6.out) GE6.out) GE6.out) GE6.out) GE6.out) hb7); have Q6 := Aside0.mk (blk_below P6.out hb7); have GE7 := Aside0.mk (show w.heap.size ≤ g7 from by rw [hg7]; exact Nat.le_trans GE6.out (Nat.le_of_lt (blk_lt P6.out))); have BK7 := Aside0.mk hbox7; have hdz0 : w7.cell? ⟨g7, 0, none⟩ = some (.string (⟨#[]⟩ : ByteArray)) := (blk_cell hbox7 0).trans rfl; have hdz1 : w7.cell? ⟨g7, 1, none⟩ = some (.string (⟨#[]⟩ : ByteArray)) := (blk_cell hbox7 1).trans rfl; have hdz2 : w7.cell? ⟨g7, 2, none⟩ = some (.string (⟨#[]⟩ : ByteArray)) := (blk_cell hbox7 2).trans rfl; have hdz3 : w7.cell? ⟨g7, 3, none⟩ = some (.string (⟨#[]⟩ : ByteArray)) := (blk_cell hbox7 3).trans rfl; have hdz4 : w7.cell? ⟨g7, 4, none⟩ = some (.string (⟨#[]⟩ : ByteArray)) := (blk_cell hbox7 4).trans rfl; have hez0 := blk_frozen hbox7 0; have hez1 := blk_frozen hbox7 1; have hez2 := blk_frozen hbox7 2; have hez3 := blk_frozen hbox7 3; have hez4 := blk_frozen hbox7 4; clear hb7 hbox7 hg7 P6))
  refine wp_gen (fun W => W.heap[g6]? = some (.cells #[.int .i64 x0, .int .i64 x1, .int .i64 x2, .int .i64 x3, .int .i64 x4] 62 (0, 0)) ∧ W.heap[g7]? = some (.cells #[.string (⟨#[119, 97, 105, 116, 115]⟩ : ByteArray), .string (⟨#[119, 111, 118, 101, 110]⟩ : ByteArray), .string (⟨#[111, 102, 102]⟩ : ByteArray), .string (⟨#[119, 97, 115, 104, 101, 100]⟩ : ByteArray), .string (⟨#[115, 111, 108, 100]⟩ : ByteArray)] 72 (0, 0)) ∧ Below w.heap.size w W) ⟨?_, ?_, ?_⟩ ?_
  · exact blk_far (blk_far (blk_far (blk_far (blk_far Q6.out NE.out _) NE.out _) NE.out _) NE.out _) NE.out _
  · exact blk_put (cs := #[.string (⟨#[119, 97, 105, 116, 115]⟩ : ByteArray), .string (⟨#[119, 111, 118, 101, 110]⟩ : ByteArray), .string (⟨#[111, 102, 102]⟩ : ByteArray), .string (⟨#[119, 97, 115, 104, 101, 100]⟩ : ByteArray), .string (⟨#[]⟩ : ByteArray)]) (blk_put (cs := #[.string (⟨#[119, 97, 105, 116, 115]⟩ : ByteArray), .string (⟨#[119, 111, 118, 101, 110]⟩ : ByteArray), .string (⟨#[111, 102, 102]⟩ : ByteArray), .string (⟨#[]⟩ : ByteArray), .string (⟨#[]⟩ : ByteArray)]) (blk_put (cs := #[.string (⟨#[119, 97, 105, 116, 115]⟩ : ByteArray), .string (⟨#[119, 111, 118, 101, 110]⟩ : ByteArray), .string (⟨#[]⟩ : ByteArray), .string (⟨#[]⟩ : ByteArray), .string (⟨#[]⟩ : ByteArray)]) (blk_put (cs := #[.string (⟨#[119, 97, 105, 116, 115]⟩ : ByteArray), .string (⟨#[]⟩ : ByteArray), .string (⟨#[]⟩ : ByteArray), .string (⟨#[]⟩ : ByteArray), .string (⟨#[]⟩ : ByteArray)]) (blk_put (cs := #[.string (⟨#[]⟩ : ByteArray), .string (⟨#[]⟩ : ByteArray), .string (⟨#[]⟩ : ByteArray), .string (⟨#[]⟩ : ByteArray), .string (⟨#[]⟩ : ByteArray)]) BK7.out 0 _ rfl) 1 _ rfl) 2 _ rfl) 3 _ rfl) 4 _ rfl
  · exact below_set (below_set (below_set (below_set (below_set HB7.out GE7.out) GE7.out) GE7.out) GE7.out) GE7.out
  clear Q6 BK7 HB7 BK6 HB6 HB2 HB NE
  intro W5 hW
  obtain ⟨B6, B7, HB⟩ := hW
  have c0 : W5.cell? ⟨g6, 0, none⟩ = some (.int .i64 x0) := (blk_cell B6 0).trans rfl
  have c1 : W5.cell? ⟨g6, 1, none⟩ = some (.int .i64 x1) := (blk_cell B6 1).trans rfl
  have c2 : W5.cell? ⟨g6, 2, none⟩ = some (.int .i64 x2) := (blk_cell B6 2).trans rfl
  have c3 : W5.cell? ⟨g6, 3, none⟩ = some (.int .i64 x3) := (blk_cell B6 3).trans rfl
  have d2 : W5.cell? ⟨g7, x2.toNat, none⟩ = some (.string nm) := (blk_cell B7 x2.toNat).trans hnm
  have hidx : (0 ≤ x2 ∧ x2 < 5) = True := eq_true ⟨hx20, hx25⟩
  have HBd := below_drew1 HB
  clear B6 B7 HB hx0 hx1 hx2 hx3 hx4
  clear b0 b1 b2 b3 y0 y1 y2 y3 y4 hcz0 hcz1 hcz2 hcz3 hcz4 hfz0 hfz1 hfz2 hfz3 hfz4 hdz0 hdz1 hdz2 hdz3 hdz4 hez0 hez1 hez2 hez3 hez4
  have z1 : (cat nm (⟨#[32]⟩ : ByteArray)).size = nm.size + 1 := by unfold cat; rw [ByteArray.size_append]; rfl
  have z2 : (cat (cat nm (⟨#[32]⟩ : ByteArray)) t1).size = nm.size + 1 + t1.size := by
    show (cat nm (⟨#[32]⟩ : ByteArray) ++ t1).size = _
    rw [ByteArray.size_append, z1]
  have z3 : (cat (cat (cat nm (⟨#[32]⟩ : ByteArray)) t1) (⟨#[47]⟩ : ByteArray)).size = nm.size + 1 + t1.size + 1 := by
    show (cat (cat nm (⟨#[32]⟩ : ByteArray)) t1 ++ (⟨#[47]⟩ : ByteArray)).size = _
    rw [ByteArray.size_append, z2]; rfl
  have e1 : (9223372036854775807 < nm.size + 1) = False := eq_false (by omega)
  have e2 : (9223372036854775807 < (cat nm (⟨#[32]⟩ : ByteArray)).size + t1.size) = False := eq_false (by omega)
  have e3 : (9223372036854775807 < (cat (cat nm (⟨#[32]⟩ : ByteArray)) t1).size + 1) = False := eq_false (by omega)
  have e4 : (9223372036854775807 < (cat (cat (cat nm (⟨#[32]⟩ : ByteArray)) t1) (⟨#[47]⟩ : ByteArray)).size + t2.size) = False := eq_false (by omega)
  have z4 : (cat (cat (cat (cat nm (⟨#[32]⟩ : ByteArray)) t1) (⟨#[47]⟩ : ByteArray)) t2).size = nm.size + 1 + t1.size + 1 + t2.size := by
    show (cat (cat (cat nm (⟨#[32]⟩ : ByteArray)) t1) (⟨#[47]⟩ : ByteArray) ++ t2).size = _
    rw [ByteArray.size_append, z3]
  have z5 : (cat (⟨#[32, 111, 110, 32]⟩ : ByteArray) t3).size = 4 + t3.size := by unfold cat; rw [ByteArray.size_append]; rfl
  have e5 : (9223372036854775807 < 4 + t3.size) = False := eq_false (by omega)
  have e6 : (9223372036854775807 < (cat (cat (cat (cat nm (⟨#[32]⟩ : ByteArray)) t1) (⟨#[47]⟩ : ByteArray)) t2).size + (cat (⟨#[32, 111, 110, 32]⟩ : ByteArray) t3).size) = False := eq_false (by omega)
  clear hnm z1 z2 z3 z4 z5 hs1 hs2 hs3 hx20 hx25 hsz
  clear hcon hd
  go_region_held3 (fun w' => w'.cell? ⟨g6, 0, none⟩ = some (.int .i64 x0) ∧ w'.cell? ⟨g6, 1, none⟩ = some (.int .i64 x1) ∧ w'.cell? ⟨g6, 2, none⟩ = some (.int .i64 x2) ∧ w'.cell? ⟨g6, 3, none⟩ = some (.int .i64 x3) ∧ w'.cell? ⟨g7, x2.toNat, none⟩ = some (.string nm) ∧ Below w.heap.size w w') (first | exact ⟨c0, c1, c2, c3, d2, HBd⟩ | exact ⟨n0, n1, n2, n3, n4, nB⟩) (first | (go_at_call 41; obtain ⟨s0, s1, s2, s3, s4, sB⟩ := (by assumption : World.cell? _ ⟨g6, 0, none⟩ = _ ∧ World.cell? _ ⟨g6, 1, none⟩ = _ ∧ World.cell? _ ⟨g6, 2, none⟩ = _ ∧ World.cell? _ ⟨g6, 3, none⟩ = _ ∧ World.cell? _ ⟨g7, x2.toNat, none⟩ = _ ∧ Below _ _ _); (first | refine (impl_decimal.calls x1 t1 _ (Gl.below hG sB) ht1).mono ?_ | refine (impl_decimal.calls x0 t2 _ (Gl.below hG sB) ht2).mono ?_); rintro e w9 ⟨rfl, hb⟩; have n0 := pw_cell_below hb s0; have n1 := pw_cell_below hb s1; have n2 := pw_cell_below hb s2; have n3 := pw_cell_below hb s3; have n4 := pw_cell_below hb s4; have nB := below_step sB hb; clear s0 s1 s2 s3 s4 sB hb))
  go_wp2_with (go_at_call 41; refine (impl_decimal.calls x3 t3 _ (Gl.below hG nB) ht3).mono ?_; rintro e w10 ⟨rfl, hb⟩; have mB := below_step nB hb; clear hb)
  go_ret2
  exact ⟨rfl, by repeat (first | exact mB | exact nB | apply below_alloc | apply pw_below_drewN | apply below_drew1)⟩
/-- The name of a carpet's state. -/
def carpetName (s : Int) : ByteArray := [(⟨#[119, 97, 105, 116, 115]⟩ : ByteArray), (⟨#[119, 111, 118, 101, 110]⟩ : ByteArray), (⟨#[111, 102, 102]⟩ : ByteArray), (⟨#[119, 97, 115, 104, 101, 100]⟩ : ByteArray), (⟨#[115, 111, 108, 100]⟩ : ByteArray)].getD s.toNat ⟨#[]⟩
theorem carpetName_at {s : Int} (h0 : 0 ≤ s) (h5 : s < 5) : (#[.string (⟨#[119, 97, 105, 116, 115]⟩ : ByteArray), .string (⟨#[119, 111, 118, 101, 110]⟩ : ByteArray), .string (⟨#[111, 102, 102]⟩ : ByteArray), .string (⟨#[119, 97, 115, 104, 101, 100]⟩ : ByteArray), .string (⟨#[115, 111, 108, 100]⟩ : ByteArray)] : Array Value)[s.toNat]? = some (.string (carpetName s)) ∧ (carpetName s).size ≤ 6 := by
  have : s = 0 ∨ s = 1 ∨ s = 2 ∨ s = 3 ∨ s = 4 := by omega
  rcases this with rfl | rfl | rfl | rfl | rfl <;> exact ⟨rfl, by decide⟩
def impl_CarpetText.f (k : Nat) (a0_0 : Int) (a0_1 : Int) (l0_2 : List (S62)) (a0_3 : Int) (a1 : Int) : Option (ByteArray × Bool) :=
  (impl_IsShop.f k a0_0 a0_1 l0_2 a0_3).bind fun t => if t = true then (if 0 ≤ a1 ∧ a1 < (l0_2.length : Int) then (if 0 ≤ (rd_T62 l0_2 a1).f2 ∧ (rd_T62 l0_2 a1).f2 < 5 then ((impl_decimal.f (rd_T62 l0_2 a1).f1).bind fun t1 => (impl_decimal.f (rd_T62 l0_2 a1).f0).bind fun t2 =>
    if t1.size + t2.size ≤ 9223372036854775000 then (if (rd_T62 l0_2 a1).f3 > 0 then ((impl_decimal.f (rd_T62 l0_2 a1).f3).bind fun t3 => if t1.size + t2.size + t3.size ≤ 9223372036854775000 then some (cat (cat (cat (cat (cat (carpetName (rd_T62 l0_2 a1).f2) ⟨#[32]⟩) t1) ⟨#[47]⟩) t2) (cat ⟨#[32, 111, 110, 32]⟩ t3), true) else none) else some (cat (cat (cat (cat (carpetName (rd_T62 l0_2 a1).f2) ⟨#[32]⟩) t1) ⟨#[47]⟩) t2, true)) else none) else none) else some (⟨#[]⟩, false)) else some (⟨#[]⟩, false)
set_option maxHeartbeats 4000000 in
set_option maxRecDepth 100000 in
theorem impl_CarpetText.calls (k : Nat) (a0_0 : Int) (a0_1 : Int) (A0_2 : Option Addr) (c0_2 : Nat) (l0_2 : List (S62)) (a0_3 : Int) (a1 : Int) (r1 : ByteArray) (r2 : Bool) (w : World) (hr0_2 : Kd.C k62 w A0_2 l0_2.length l0_2) (hc0_2 : l0_2.length ≤ c0_2) (hG : Gl w) (h : impl_CarpetText.f k a0_0 a0_1 l0_2 a0_3 a1 = some (r1, r2)) :
    Calls Tryd.prog 22 #[.agg #[.int .i64 a0_0, .int .i64 a0_1, .slice A0_2 l0_2.length c0_2, .int .i64 a0_3], .int .i64 a1] w fun e w' => e = .returned (.tuple #[.string r1, .bool r2]) ∧ Below w.heap.size w w' := by
  unfold impl_CarpetText.f at h
  obtain ⟨t, hsh, h⟩ := Option.bind_eq_some_iff.mp h
  have huS := Tryd.underlying26
  have hcon := fun t h => impl_IsShop.calls k a0_0 a0_1 A0_2 c0_2 l0_2 a0_3 t (w.alloc (.cells #[.int .i64 a0_0, .int .i64 a0_1, .slice A0_2 l0_2.length c0_2, .int .i64 a0_3] 26)) (Kd.C_alloc hr0_2 _) hc0_2 h
  cases t with
  | false =>
    simp only [Bool.false_eq_true, if_false, Option.some.injEq, Prod.mk.injEq] at h
    obtain ⟨rfl, rfl⟩ := h
    have hc := hcon false hsh
    clear hcon hsh hG hr0_2
    go_enter Tryd.func22, Tryd.ntmps22
    go_wp2_with (go_at_call 32; refine hc.mono ?_; rintro e w' ⟨rfl, hb⟩; have HB := Aside0.mk hb; clear hb)
    go_ret2
    exact ⟨rfl, (below_alloc (Below.refl _ _) _).trans (HB.out.mono (by simp))⟩
  | true =>
    simp only [if_true] at h
    by_cases hx : 0 ≤ a1 ∧ a1 < (l0_2.length : Int)
    rotate_left
    · rw [if_neg hx] at h
      simp only [Option.some.injEq, Prod.mk.injEq] at h
      obtain ⟨rfl, rfl⟩ := h
      have hin : impl_in.f a1 0 ((l0_2.length : Int) - 1) = some false := by
        unfold impl_in.f
        by_cases h0 : a1 ≥ 0
        rotate_left
        · rw [if_neg h0]
        rw [if_pos h0, decide_eq_false (by omega)]
      have hc := hcon true hsh
      have hd := fun W => impl_in.calls a1 0 ((l0_2.length : Int) - 1) false W hin
      have hwr : wrap64 ((l0_2.length : Int) - 1) = (l0_2.length : Int) - 1 := by have := hr0_2.2.1; unfold wrap64; omega
      clear hcon hsh hG hr0_2 hin hx
      go_enter Tryd.func22, Tryd.ntmps22
      go_wp2_with (first | (go_at_call 32; refine hc.mono ?_; rintro e w' ⟨rfl, hb⟩; have b2 : w'.cell? ⟨w.heap.size, 2, none⟩ = some (.slice A0_2 l0_2.length c0_2) := (hb.cell (p := ⟨w.heap.size, 2, none⟩) (by simp)).trans (by simp); have HB := Aside0.mk ((below_alloc (Below.refl w.heap.size w) (.cells #[.int .i64 a0_0, .int .i64 a0_1, .slice A0_2 l0_2.length c0_2, .int .i64 a0_3] 26)).trans (hb.mono (by simp))); clear hb) | (go_at_call 40; (try rw [hwr]); refine (hd _).mono ?_; rintro e w'' ⟨rfl, ⟨⟨q, rfl⟩⟩⟩; have HB2 := Aside0.mk (pw_below_drewN HB.out q)))
      go_ret2
      exact ⟨rfl, HB2.out⟩
    rw [if_pos hx] at h
    have hin : impl_in.f a1 0 ((l0_2.length : Int) - 1) = some true := by unfold impl_in.f; rw [if_pos hx.1, decide_eq_true (by omega)]
    obtain ⟨ad, e, y0, y1, y2, y3, y4⟩ := at_T62 hr0_2 a1 hx.1 hx.2
    subst e
    generalize rd_T62 l0_2 a1 = x at *
    obtain ⟨x0, x1, x2, x3, x4⟩ := x
    dsimp only at *
    have hlt : ad.block < w.heap.size := by
      have := (spot_none y0).2
      have hb : (ad.add (a1.toNat * 5)).block = ad.block := by unfold Addr.add; split <;> rfl
      rwa [hb] at this
    by_cases h5 : 0 ≤ x2 ∧ x2 < 5
    rotate_left
    · rw [if_neg h5] at h; cases h
    rw [if_pos h5] at h
    obtain ⟨t1, ht1, h⟩ := Option.bind_eq_some_iff.mp h
    obtain ⟨t2, ht2, h⟩ := Option.bind_eq_some_iff.mp h
    obtain ⟨hnm, hsz⟩ := carpetName_at h5.1 h5.2
    by_cases hs : t1.size + t2.size ≤ 9223372036854775000
    rotate_left
    · rw [if_neg hs] at h; cases h
    rw [if_pos hs] at h
    by_cases hlo : x3 > 0
    rotate_left
    · rw [if_neg hlo] at h
      simp only [Option.some.injEq, Prod.mk.injEq] at h
      obtain ⟨rfl, rfl⟩ := h
      exact impl_CarpetText.walk k a0_0 a0_1 ad c0_2 l0_2 a0_3 a1 x0 x1 x2 x3 x4 _ t1 t2 w hr0_2 hc0_2 hG hsh hx.1 hx.2 hin y0 y1 y2 y3 y4 hlt ht1 ht2 h5.1 h5.2 hnm hsz (by omega) (by omega) hlo
    rw [if_pos hlo] at h
    obtain ⟨t3, ht3, h⟩ := Option.bind_eq_some_iff.mp h
    by_cases hs3 : t1.size + t2.size + t3.size ≤ 9223372036854775000
    rotate_left
    · rw [if_neg hs3] at h; cases h
    rw [if_pos hs3] at h
    simp only [Option.some.injEq, Prod.mk.injEq] at h
    obtain ⟨rfl, rfl⟩ := h
    exact impl_CarpetText.walk_lo k a0_0 a0_1 ad c0_2 l0_2 a0_3 a1 x0 x1 x2 x3 x4 _ t1 t2 w hr0_2 hc0_2 hG hsh hx.1 hx.2 hin y0 y1 y2 y3 y4 hlt ht1 ht2 h5.1 h5.2 hnm hsz (by omega) (by omega) hlo t3 ht3 (by omega)
end


end Go.Proofs.YtneaeaoemhghdaaDoor.G

-- Written by a program of this session (wip/pd.py), which calls the kit's print; externals' contracts by hand.
namespace Go.Proofs.YtneaeaoemhghdaaDoor.G
open Go.Proofs.YtneaeaoemhghdaaDoorQ
open Go.RowKit Go.Proofs.YtneaeaoemhghdaaDoorW.PrintWords Go.Proofs.YtneaeaoemhghdaaDoorW.PrintLast Go.Proofs.YtneaeaoemhghdaaDoorW.PrintMore
attribute [local go_sem] max2_int min2_int max_two min_two max_three min_three max_four min_four   -- for this text's walks alone
set_option linter.unusedVariables false
set_option linter.unusedSimpArgs false

/-! ### impl_FormatConsole: function 30 (by hand) -/
/-! strings.Builder's contracts, laid at this program by hand -/
def layB_ren : Go.Shelf.Ren := ⟨fun | 166 => 53 | 169 => 54 | 240 => 75 | 276 => 86 | n => n, fun | 37 => 22 | 70 => 82 | 72 => 84 | 75 => 86 | 80 => 89 | 164 => 119 | 127 => 106 | n => n, fun | n => n⟩
theorem layB166 : Go.Proofs.Lays.n166 Tryd.prog layB_ren where
  mixed := by kernel_rfl
  f166 := Tryd.func53.trans (congrArg some (by kernel_rfl))
  f240 := Tryd.func75.trans (congrArg some (by kernel_rfl))
  f276 := Tryd.func86.trans (congrArg some (by kernel_rfl))
  t0 := Tryd.underlying0
  a0 := Tryd.isAgg0
  z0 := Tryd.sizeOf0
  v0 := Tryd.zeroValue0
  t3 := Tryd.underlying3
  a3 := Tryd.isAgg3
  z3 := Tryd.sizeOf3
  v3 := Tryd.zeroValue3
  t4 := Tryd.underlying4
  a4 := Tryd.isAgg4
  z4 := Tryd.sizeOf4
  v4 := Tryd.zeroValue4
  t9 := Tryd.underlying9
  a9 := Tryd.isAgg9
  z9 := Tryd.sizeOf9
  v9 := Tryd.zeroValue9
  t20 := Tryd.underlying20
  a20 := Tryd.isAgg20
  z20 := Tryd.sizeOf20
  v20 := Tryd.zeroValue20
  t37 := Tryd.underlying22
  a37 := Tryd.isAgg22
  z37 := Tryd.sizeOf22
  v37 := Tryd.zeroValue22
  t70 := Tryd.underlying82
  a70 := Tryd.isAgg82
  z70 := Tryd.sizeOf82
  v70 := Tryd.zeroValue82
  t72 := Tryd.underlying84
  a72 := Tryd.isAgg84
  z72 := Tryd.sizeOf84
  v72 := Tryd.zeroValue84
  t75 := Tryd.underlying86
  a75 := Tryd.isAgg86
  z75 := Tryd.sizeOf86
  v75 := Tryd.zeroValue86
  t164 := Tryd.underlying119
  a164 := Tryd.isAgg119
  z164 := Tryd.sizeOf119
  v164 := Tryd.zeroValue119
theorem layB169 : Go.Proofs.Lays.n169 Tryd.prog layB_ren where
  mixed := by kernel_rfl
  f169 := Tryd.func54.trans (congrArg some (by kernel_rfl))
  t0 := Tryd.underlying0
  a0 := Tryd.isAgg0
  z0 := Tryd.sizeOf0
  v0 := Tryd.zeroValue0
  t3 := Tryd.underlying3
  a3 := Tryd.isAgg3
  z3 := Tryd.sizeOf3
  v3 := Tryd.zeroValue3
  t9 := Tryd.underlying9
  a9 := Tryd.isAgg9
  z9 := Tryd.sizeOf9
  v9 := Tryd.zeroValue9
  t37 := Tryd.underlying22
  a37 := Tryd.isAgg22
  z37 := Tryd.sizeOf22
  v37 := Tryd.zeroValue22
  t70 := Tryd.underlying82
  a70 := Tryd.isAgg82
  z70 := Tryd.sizeOf82
  v70 := Tryd.zeroValue82
  t72 := Tryd.underlying84
  a72 := Tryd.isAgg84
  z72 := Tryd.sizeOf84
  v72 := Tryd.zeroValue84
  t127 := Tryd.underlying106
  a127 := Tryd.isAgg106
  z127 := Tryd.sizeOf106
  v127 := Tryd.zeroValue106
theorem layBX : Go.Proofs.Builder.Extra Tryd.prog layB_ren where
  sizeBuilder := by kernel_rfl
  liesBuilder := by kernel_rfl
  t5 := Tryd.underlying5
  a5 := Tryd.isAgg5
  z5 := Tryd.sizeOf5
  v5 := Tryd.zeroValue5
  infoByte := by kernel_rfl
  cellsByte := by kernel_rfl
  sizeByte := by kernel_rfl
  neB5 := by decide
theorem writeString (B b : Nat) (bs : List Value) (s : ByteArray) (w : World) (h : Lib.IsBuilder 84 5 B b bs w) (hlen : bs.length + s.size ≤ 140737488355328) (hBw : B ≤ w.heap.size) :
    Calls Tryd.prog 53 #[.pointer (some ⟨b, 0, none⟩), .string s] w fun e w' => e = .returned (.tuple #[.int .i64 s.size, .nilIface]) ∧ (Lib.BuilderAt 84 5 B b (.pointer (some ⟨b, 0, none⟩)) (bs ++ Lib.strCells s) w' ∧ Below B w w') := Any.Builder_WriteString layB166 layBX B b bs s w h hlen hBw
theorem builderString (B b : Nat) (l : List UInt8) (w : World) (h : Lib.IsBuilder 84 5 B b (Lib.byteCells l) w) (hBw : B ≤ w.heap.size) :
    Calls Tryd.prog 54 #[.pointer (some ⟨b, 0, none⟩)] w fun e w' => e = .returned (.string ⟨l.toArray⟩) ∧ Below B w w' := Any.Builder_String_any layB169 layBX B b l w h hBw
theorem builder_below {T e B b : Nat} {bs : List Value} {w w' : World} (h : Lib.IsBuilder T e B b bs w) (hb : Below w.heap.size w w') : Lib.IsBuilder T e B b bs w' := by
  have key : ∀ p, Lib.BuilderAt T e B b p bs w → Lib.BuilderAt T e B b p bs w' := fun p ⟨h1, v, h2, h3, h4⟩ => ⟨h1, v, (hb.block b (blk_lt h2)).trans h2, own_move h3 (fun k hk => hb.block k (own_lt h3 k hk)), h4⟩
  exact h.imp (key _) (key _)
theorem builder_nil {T e b : Nat} {w : World} (h : w.heap[b]? = some (.cells #[.pointer none, .slice none 0 0] T (0, 0))) : Lib.IsBuilder T e b b [] w :=
  Or.inl ⟨Nat.le_refl _, .slice none 0 0, h, World.ownsRow_nil _ _ _ _, by simp [Value.ownBlock]⟩
theorem builder_lt {T e B b : Nat} {bs : List Value} {w : World} (h : Lib.IsBuilder T e B b bs w) : b < w.heap.size := h.elim (fun k => k.lt) (fun k => k.lt)
theorem cat_data (a b : ByteArray) : (cat a b).data.toList = a.data.toList ++ b.data.toList := by unfold cat; rw [ByteArray.data_append]; simp
theorem writeText (B b : Nat) (out s : ByteArray) (w : World) (h : Lib.IsBuilder 84 5 B b (Lib.byteCells out.data.toList) w) (hlen : out.size + s.size ≤ 140737488355328) (hBw : B ≤ w.heap.size) :
    Calls Tryd.prog 53 #[.pointer (some ⟨b, 0, none⟩), .string s] w fun e w' => e = .returned (.tuple #[.int .i64 s.size, .nilIface]) ∧ Lib.IsBuilder 84 5 B b (Lib.byteCells (cat out s).data.toList) w' ∧ Below B w w' := by
  refine (writeString B b _ s w h (by rw [Lib.byteCells_length]; exact hlen) hBw).mono ?_
  rintro e w' ⟨rfl, h1, h2⟩
  rw [Lib.strCells_eq, ← Lib.byteCells_append, ← cat_data] at h1
  exact ⟨rfl, Or.inr h1, h2⟩
theorem textOf (B b : Nat) (out : ByteArray) (w : World) (h : Lib.IsBuilder 84 5 B b (Lib.byteCells out.data.toList) w) (hBw : B ≤ w.heap.size) :
    Calls Tryd.prog 54 #[.pointer (some ⟨b, 0, none⟩)] w fun e w' => e = .returned (.string out) ∧ Below B w w' := by
  refine (builderString B b _ w h hBw).mono ?_
  rintro e w' ⟨rfl, h2⟩
  exact ⟨by simp, h2⟩
theorem size_cat (a b : ByteArray) : (cat a b).size = a.size + b.size := by unfold cat; exact ByteArray.size_append
/-- The lines of the carpets from number i on, behind a text. -/
def fmtLines (k : Nat) (D L : Int) (l : List (S62)) (M : Int) : Nat → Nat → ByteArray → Option ByteArray
  | 0, _, out => some out
  | d + 1, i, out => (impl_CarpetText.f k D L l M (i : Int)).bind fun b => (impl_decimal.f (i : Int)).bind fun t =>
    if out.size + (t.size + 2 + b.1.size + 1) ≤ 140737488355328 then fmtLines k D L l M d (i + 1) (cat out (cat (cat (cat t ⟨#[58, 32]⟩) b.1) ⟨#[10]⟩)) else none
def impl_FormatConsole.f (k : Nat) (a0_0 : Int) (a0_1 : Int) (l0_2 : List (S62)) (a0_3 : Int) (a0_4 : ByteArray) (a0_5 : ByteArray) (a0_6 : Int) : Option (ByteArray × Bool) :=
  (impl_IsValidConsole.f k a0_0 a0_1 l0_2 a0_3 a0_4 a0_5 a0_6).bind fun t => if t = true then ((fmtLines k a0_0 a0_1 l0_2 a0_3 l0_2.length 0 ⟨#[]⟩).bind fun out => (impl_decimal.f a0_0).bind fun d1 => (impl_decimal.f a0_3).bind fun d2 => (impl_decimal.f a0_6).bind fun d3 =>
    if out.size + (d1.size + d2.size + d3.size + 30) ≤ 140737488355328 then some (cat out (cat (cat (cat (cat (cat (cat ⟨#[100, 97, 121, 32]⟩ d1) ⟨#[59, 32, 109, 111, 110, 101, 121, 32]⟩) d2) ⟨#[59, 32, 114, 101, 99, 111, 114, 100, 115, 32]⟩) d3) ⟨#[10]⟩), true) else none) else some (⟨#[]⟩, false)
section
attribute [local go_sem high] run_add_cat run_slice_cat run_slice_cat_h run_slice_cat_l run_slice_cat_all
set_option maxHeartbeats 8000000 in
set_option maxRecDepth 100000 in
theorem impl_FormatConsole.calls (k : Nat) (a0_0 : Int) (a0_1 : Int) (A0_2 : Option Addr) (c0_2 : Nat) (l0_2 : List (S62)) (a0_3 : Int) (a0_4 : ByteArray) (a0_5 : ByteArray) (a0_6 : Int) (r1 : ByteArray) (r2 : Bool) (w : World) (hr0_2 : Kd.C k62 w A0_2 l0_2.length l0_2) (hc0_2 : l0_2.length ≤ c0_2) (hG : Gl w) (h : impl_FormatConsole.f k a0_0 a0_1 l0_2 a0_3 a0_4 a0_5 a0_6 = some (r1, r2)) :
    Calls Tryd.prog 30 #[.agg #[.int .i64 a0_0, .int .i64 a0_1, .slice A0_2 l0_2.length c0_2, .int .i64 a0_3, .string a0_4, .string a0_5, .int .i64 a0_6]] w fun e w' => e = .returned (.tuple #[.string r1, .bool r2]) ∧ Below w.heap.size w w' := by
  unfold impl_FormatConsole.f at h
  obtain ⟨t, hv, h⟩ := Option.bind_eq_some_iff.mp h
  have huC := Tryd.underlying54
  have hu26 := Tryd.underlying26
  have huL := Tryd.underlying52
  have hcv := fun t h => impl_IsValidConsole.calls k a0_0 a0_1 A0_2 c0_2 l0_2 a0_3 a0_4 a0_5 a0_6 t (w.alloc (.cells #[.int .i64 a0_0, .int .i64 a0_1, .slice A0_2 l0_2.length c0_2, .int .i64 a0_3, .string a0_4, .string a0_5, .int .i64 a0_6] 54)) (Kd.C_alloc hr0_2 _) hc0_2 (hG.below (below_alloc (Below.refl _ _) _)) h
  cases t with
  | false =>
    simp only [Bool.false_eq_true, if_false, Option.some.injEq, Prod.mk.injEq] at h
    obtain ⟨rfl, rfl⟩ := h
    have hc := hcv false hv
    clear hcv hv hG hr0_2
    go_enter Tryd.func30, Tryd.ntmps30
    go_wp2_with (go_at_call 27; refine hc.mono ?_; rintro e w' ⟨rfl, hb⟩; have HB := Aside0.mk hb; clear hb)
    go_ret2
    exact ⟨rfl, (below_alloc (Below.refl _ _) _).trans (HB.out.mono (by simp))⟩
  | true =>
    simp only [if_true] at h
    have hc := hcv true hv
    obtain ⟨total, hlines, h⟩ := Option.bind_eq_some_iff.mp h
    obtain ⟨d1, hd1, h⟩ := Option.bind_eq_some_iff.mp h
    obtain ⟨d2, hd2, h⟩ := Option.bind_eq_some_iff.mp h
    obtain ⟨d3, hd3, h⟩ := Option.bind_eq_some_iff.mp h
    by_cases hsz : total.size + (d1.size + d2.size + d3.size + 30) ≤ 140737488355328
    rotate_left
    · rw [if_neg hsz] at h; cases h
    rw [if_pos hsz] at h
    simp only [Option.some.injEq, Prod.mk.injEq] at h
    obtain ⟨rfl, rfl⟩ := h
    have HC := Aside0.mk hr0_2
    have HSZ := Aside0.mk hsz
    have HL := Aside0.mk hlines
    clear hcv hv hr0_2 hsz hlines
    go_enter Tryd.func30, Tryd.ntmps30
    go_wp2_with (first | (go_at_call 27; refine hc.mono ?_; rintro e w' ⟨rfl, hb⟩; have BS := Aside0.mk (blk_below (blk_new w (.cells #[.int .i64 a0_0, .int .i64 a0_1, .slice A0_2 l0_2.length c0_2, .int .i64 a0_3, .string a0_4, .string a0_5, .int .i64 a0_6] 54)) hb); have HB := Aside0.mk ((below_alloc (Below.refl w.heap.size w) (.cells #[.int .i64 a0_0, .int .i64 a0_1, .slice A0_2 l0_2.length c0_2, .int .i64 a0_3, .string a0_4, .string a0_5, .int .i64 a0_6] 54)).trans (hb.mono (by simp))); clear hb hc) | ((with_reducible refine gate_dst (N := 4) rfl ?_); refine qbox (N := 4) (cs := #[.pointer none, .slice none 0 0]) (t := 84) ?_; intro g4 hg4 w4 hbox4 hb4; have LT := Aside0.mk (show w.heap.size < g4 from by rw [hg4]; exact blk_lt BS.out); have BS4 := Aside0.mk (blk_below BS.out hb4); have HB4 := Aside0.mk (below_step HB.out hb4); have BK4 := Aside0.mk hbox4; have hz0 : w4.cell? ⟨g4, 0, none⟩ = some (.pointer none) := (blk_cell hbox4 0).trans rfl; have hz1 : w4.cell? ⟨g4, 1, none⟩ = some (.slice none 0 0) := (blk_cell hbox4 1).trans rfl; have hf0 := blk_frozen hbox4 0; have hf1 := blk_frozen hbox4 1; have s0 : w4.cell? ⟨w.heap.size, 2, none⟩ = some (.slice A0_2 l0_2.length c0_2) := (blk_cell BS4.out 2).trans rfl; have hne : w.heap.size ≠ g4 := Nat.ne_of_lt LT.out; have hne' : g4 ≠ w.heap.size := Ne.symm hne; clear hb4 hbox4 hg4))
    go_loopg [16] l0_2.length (fun kq v16 wr => ∃ (i : Nat) (out : ByteArray), v16 = .int .i64 (i : Int) ∧ Aside0 (i ≤ l0_2.length ∧ l0_2.length - i ≤ kq) ∧ Aside0 (fmtLines k a0_0 a0_1 l0_2 a0_3 (l0_2.length - i) i out = some total) ∧ Aside0 (Lib.IsBuilder 84 5 g4 g4 (Lib.byteCells out.data.toList) wr) ∧ Aside0 (wr.heap[w.heap.size]? = some (.cells #[.int .i64 a0_0, .int .i64 a0_1, .slice A0_2 l0_2.length c0_2, .int .i64 a0_3, .string a0_4, .string a0_5, .int .i64 a0_6] 54 (0, 0))) ∧ Aside0 (Below w.heap.size w wr))
    case atStart => exact ⟨0, ⟨#[]⟩, rfl, ⟨⟨Nat.zero_le _, by omega⟩⟩, ⟨HL.out⟩, ⟨builder_nil (blk_put (cs := #[.pointer none, .slice none 0 0]) (blk_put (cs := #[.pointer none, .slice none 0 0]) BK4.out 0 _ rfl) 1 _ rfl)⟩, ⟨blk_far (blk_far BS4.out hne _) hne _⟩, ⟨below_set (below_set HB4.out (Nat.le_of_lt LT.out)) (Nat.le_of_lt LT.out)⟩⟩
    case round =>
      clear hz0 hz1 hf0 hf1 s0 HL BS4 HB4 BK4 BS HB
      obtain ⟨i, out, rfl, HI, HM, HU, HX, HW⟩ := hrel
      by_cases hi : i < l0_2.length
      · obtain ⟨d, hd⟩ : ∃ d, l0_2.length - i = d + 1 := ⟨l0_2.length - i - 1, by omega⟩
        have hm := HM.out
        rw [hd] at hm
        unfold fmtLines at hm
        obtain ⟨⟨b1, b2⟩, hct, hm⟩ := Option.bind_eq_some_iff.mp hm
        obtain ⟨tx, htx, hm⟩ := Option.bind_eq_some_iff.mp hm
        dsimp only at hm
        by_cases hs : out.size + (tx.size + 2 + b1.size + 1) ≤ 140737488355328
        rotate_left
        · rw [if_neg hs] at hm; cases hm
        rw [if_pos hs] at hm
        have ilt : (i : Int) < (l0_2.length : Int) := by omega
        have q1 : (cat tx (⟨#[58, 32]⟩ : ByteArray)).size = tx.size + 2 := size_cat _ _
        have q2 : (cat (cat tx (⟨#[58, 32]⟩ : ByteArray)) b1).size = tx.size + 2 + b1.size := by rw [size_cat, q1]
        have q3 : (cat (cat (cat tx (⟨#[58, 32]⟩ : ByteArray)) b1) (⟨#[10]⟩ : ByteArray)).size = tx.size + 2 + b1.size + 1 := by rw [size_cat, q2]; rfl
        have e1 : (9223372036854775807 < tx.size + 2) = False := eq_false (by omega)
        have e2 : (9223372036854775807 < (cat tx (⟨#[58, 32]⟩ : ByteArray)).size + b1.size) = False := eq_false (by omega)
        have e3 : (9223372036854775807 < (cat (cat tx (⟨#[58, 32]⟩ : ByteArray)) b1).size + 1) = False := eq_false (by omega)
        have ew : wrap64 ((i : Int) + 1) = ((i + 1 : Nat) : Int) := by have h_ := HC.out.2.1; unfold wrap64; omega
        have HSW := Aside0.mk (show out.size + (cat (cat (cat tx (⟨#[58, 32]⟩ : ByteArray)) b1) (⟨#[10]⟩ : ByteArray)).size ≤ 140737488355328 by omega)
        have c0 : wr.cell? ⟨w.heap.size, 0, none⟩ = some (.int .i64 a0_0) := (blk_cell HX.out 0).trans rfl
        have c1 : wr.cell? ⟨w.heap.size, 1, none⟩ = some (.int .i64 a0_1) := (blk_cell HX.out 1).trans rfl
        have c2 : wr.cell? ⟨w.heap.size, 2, none⟩ = some (.slice A0_2 l0_2.length c0_2) := (blk_cell HX.out 2).trans rfl
        have c3 : wr.cell? ⟨w.heap.size, 3, none⟩ = some (.int .i64 a0_3) := (blk_cell HX.out 3).trans rfl
        have HN := Aside0.mk hm
        have HD := Aside0.mk hd
        have HI2 := Aside0.mk hi
        clear q1 q2 q3 hs hm hd hi HM
        go_wp2_with (first | (go_at_call 22; refine (impl_CarpetText.calls k a0_0 a0_1 A0_2 c0_2 l0_2 a0_3 (i : Int) b1 b2 _ (Kd.C_below HC.out HW.out) hc0_2 (Gl.below hG HW.out) hct).mono ?_; rintro e w7 ⟨rfl, hb⟩; have HX7 := Aside0.mk (blk_below HX.out hb); have HW7 := Aside0.mk (below_step HW.out hb); have HU7 := Aside0.mk (builder_below HU.out hb); clear hb) | (go_at_call 41; refine (impl_decimal.calls (i : Int) tx _ (Gl.below hG HW7.out) htx).mono ?_; rintro e w8 ⟨rfl, hb⟩; have HX8 := Aside0.mk (blk_below HX7.out hb); have HW8 := Aside0.mk (below_step HW7.out hb); have HU8 := Aside0.mk (builder_below HU7.out hb); clear hb) | (go_at_call 53; refine (writeText g4 g4 out _ _ HU8.out HSW.out (Nat.le_of_lt (builder_lt HU8.out))).mono ?_; rintro e w9 ⟨rfl, hB, hb⟩; have HX9 := Aside0.mk ((hb.block _ LT.out).trans HX8.out); have HW9 := Aside0.mk (HW8.out.trans (hb.mono (Nat.le_of_lt LT.out))); have HU9 := Aside0.mk hB; clear hB hb))
        go_roundg (l0_2.length - (i + 1))
        case measure => have := HI.out; have := HI2.out; omega
        case rel => exact ⟨i + 1, _, by go_num, ⟨⟨HI2.out, Nat.le_refl _⟩⟩, ⟨by rw [show l0_2.length - (i + 1) = d by have := HD.out; omega]; exact HN.out⟩, HU9, HX9, HW9⟩
      have hlt : ¬ (i : Int) < (l0_2.length : Int) := by omega
      have ei : i = l0_2.length := by have := HI.out; omega
      have et : out = total := by
        have hm := HM.out
        rw [ei, Nat.sub_self] at hm
        exact Option.some.inj hm
      subst et
      go_upto_region 10 with (fail)
      have c0 : wr.cell? ⟨w.heap.size, 0, none⟩ = some (.int .i64 a0_0) := (blk_cell HX.out 0).trans rfl
      have c3 : wr.cell? ⟨w.heap.size, 3, none⟩ = some (.int .i64 a0_3) := (blk_cell HX.out 3).trans rfl
      have c6 : wr.cell? ⟨w.heap.size, 6, none⟩ = some (.int .i64 a0_6) := (blk_cell HX.out 6).trans rfl
      have HBd := below_drew1 HW.out
      have bN := Or.imp (Lib.BuilderAt.drew) (Lib.BuilderAt.drew) HU.out
      have hsz := HSZ.out
      have e1 : (9223372036854775807 < 4 + d1.size) = False := eq_false (by omega)
      have z1 : (cat (⟨#[100, 97, 121, 32]⟩ : ByteArray) d1).size = 4 + d1.size := by rw [size_cat]; rfl
      have e2 : (9223372036854775807 < (cat (⟨#[100, 97, 121, 32]⟩ : ByteArray) d1).size + 8) = False := eq_false (by omega)
      have z2 : (cat (cat (⟨#[100, 97, 121, 32]⟩ : ByteArray) d1) (⟨#[59, 32, 109, 111, 110, 101, 121, 32]⟩ : ByteArray)).size = 4 + d1.size + 8 := by rw [size_cat, z1]; rfl
      have e3 : (9223372036854775807 < (cat (cat (⟨#[100, 97, 121, 32]⟩ : ByteArray) d1) (⟨#[59, 32, 109, 111, 110, 101, 121, 32]⟩ : ByteArray)).size + d2.size) = False := eq_false (by omega)
      have z3 : (cat (cat (cat (⟨#[100, 97, 121, 32]⟩ : ByteArray) d1) (⟨#[59, 32, 109, 111, 110, 101, 121, 32]⟩ : ByteArray)) d2).size = 4 + d1.size + 8 + d2.size := by rw [size_cat, z2]
      have e4 : (9223372036854775807 < (cat (cat (cat (⟨#[100, 97, 121, 32]⟩ : ByteArray) d1) (⟨#[59, 32, 109, 111, 110, 101, 121, 32]⟩ : ByteArray)) d2).size + 10) = False := eq_false (by omega)
      have z4 : (cat (cat (cat (cat (⟨#[100, 97, 121, 32]⟩ : ByteArray) d1) (⟨#[59, 32, 109, 111, 110, 101, 121, 32]⟩ : ByteArray)) d2) (⟨#[59, 32, 114, 101, 99, 111, 114, 100, 115, 32]⟩ : ByteArray)).size = 4 + d1.size + 8 + d2.size + 10 := by rw [size_cat, z3]; rfl
      have e5 : (9223372036854775807 < (cat (cat (cat (cat (⟨#[100, 97, 121, 32]⟩ : ByteArray) d1) (⟨#[59, 32, 109, 111, 110, 101, 121, 32]⟩ : ByteArray)) d2) (⟨#[59, 32, 114, 101, 99, 111, 114, 100, 115, 32]⟩ : ByteArray)).size + d3.size) = False := eq_false (by omega)
      have z5 : (cat (cat (cat (cat (cat (⟨#[100, 97, 121, 32]⟩ : ByteArray) d1) (⟨#[59, 32, 109, 111, 110, 101, 121, 32]⟩ : ByteArray)) d2) (⟨#[59, 32, 114, 101, 99, 111, 114, 100, 115, 32]⟩ : ByteArray)) d3).size = 4 + d1.size + 8 + d2.size + 10 + d3.size := by rw [size_cat, z4]
      have e6 : (9223372036854775807 < (cat (cat (cat (cat (cat (⟨#[100, 97, 121, 32]⟩ : ByteArray) d1) (⟨#[59, 32, 109, 111, 110, 101, 121, 32]⟩ : ByteArray)) d2) (⟨#[59, 32, 114, 101, 99, 111, 114, 100, 115, 32]⟩ : ByteArray)) d3).size + 1) = False := eq_false (by omega)
      have z6 : (cat (cat (cat (cat (cat (cat (⟨#[100, 97, 121, 32]⟩ : ByteArray) d1) (⟨#[59, 32, 109, 111, 110, 101, 121, 32]⟩ : ByteArray)) d2) (⟨#[59, 32, 114, 101, 99, 111, 114, 100, 115, 32]⟩ : ByteArray)) d3) (⟨#[10]⟩ : ByteArray)).size = 4 + d1.size + 8 + d2.size + 10 + d3.size + 1 := by rw [size_cat, z5]; rfl
      have HSW := Aside0.mk (show out.size + (cat (cat (cat (cat (cat (cat (⟨#[100, 97, 121, 32]⟩ : ByteArray) d1) (⟨#[59, 32, 109, 111, 110, 101, 121, 32]⟩ : ByteArray)) d2) (⟨#[59, 32, 114, 101, 99, 111, 114, 100, 115, 32]⟩ : ByteArray)) d3) (⟨#[10]⟩ : ByteArray)).size ≤ 140737488355328 by omega)
      clear z1 z2 z3 z4 z5 z6 hsz HU HX HW HM hlt hi
      go_region_held3 (fun w' => w'.cell? ⟨w.heap.size, 0, none⟩ = some (.int .i64 a0_0) ∧ w'.cell? ⟨w.heap.size, 3, none⟩ = some (.int .i64 a0_3) ∧ w'.cell? ⟨w.heap.size, 6, none⟩ = some (.int .i64 a0_6) ∧ Below w.heap.size w w') (first | exact ⟨c0, c3, c6, HBd⟩ | exact ⟨n0, n1, n2, nB⟩) (first | (go_at_call 41; obtain ⟨s0, s1, s2, sB⟩ := (by assumption : World.cell? _ ⟨w.heap.size, 0, none⟩ = _ ∧ World.cell? _ ⟨w.heap.size, 3, none⟩ = _ ∧ World.cell? _ ⟨w.heap.size, 6, none⟩ = _ ∧ Below _ _ _); (first | refine (impl_decimal.calls a0_0 d1 _ (Gl.below hG sB) hd1).mono ?_ | refine (impl_decimal.calls a0_3 d2 _ (Gl.below hG sB) hd2).mono ?_ | refine (impl_decimal.calls a0_6 d3 _ (Gl.below hG sB) hd3).mono ?_); rintro e w9 ⟨rfl, hb⟩; have n0 := pw_cell_below hb s0; have n1 := pw_cell_below hb s1; have n2 := pw_cell_below hb s2; have nB := below_step sB hb; have bM := builder_below bN hb; clear bN; have bN := bM; clear bM; clear s0 s1 s2 sB hb) | (go_at_call 53; obtain ⟨s0, s1, s2, sB⟩ := (by assumption : World.cell? _ ⟨w.heap.size, 0, none⟩ = _ ∧ World.cell? _ ⟨w.heap.size, 3, none⟩ = _ ∧ World.cell? _ ⟨w.heap.size, 6, none⟩ = _ ∧ Below _ _ _); refine (writeText g4 g4 out _ _ bN HSW.out (Nat.le_of_lt (builder_lt bN))).mono ?_; rintro e w9 ⟨rfl, hB, hb⟩; have n0 := (hb.cell (p := ⟨w.heap.size, 0, none⟩) LT.out).trans s0; have n1 := (hb.cell (p := ⟨w.heap.size, 3, none⟩) LT.out).trans s1; have n2 := (hb.cell (p := ⟨w.heap.size, 6, none⟩) LT.out).trans s2; have nB := sB.trans (hb.mono (Nat.le_of_lt LT.out)); clear bN; have bN := hB; clear s0 s1 s2 sB hb hB))
      have BN := Aside0.mk bN
      have NB := Aside0.mk nB
      clear bN nB n0 n1 n2
      go_wp2_with (go_at_call 54; refine (textOf g4 g4 _ _ BN.out (Nat.le_of_lt (builder_lt BN.out))).mono ?_; rintro e w11 ⟨rfl, hb⟩; have MB := Aside0.mk (NB.out.trans (hb.mono (Nat.le_of_lt LT.out))); clear hb)
      go_ret2
      exact ⟨rfl, MB.out⟩
end


/-! ### laws_FnExactFormatConsole: function 5 -/
def laws_FnExactFormatConsole.j0 : Nat → Bool → Int → Int → List (S115) → Int → ByteArray → ByteArray → Int → Int → Int → List (S62) → Int → ByteArray → ByteArray → Int → Option (Bool)
  | 0, _, _, _, _, _, _, _, _, _, _, _, _, _, _, _ => none
  | k + 1, x34, x362000, x362001, x362002, x362003, x362004, x362005, x362006, x384000, x384001, x384002, x384003, x384004, x384005, x384006 => if x34 = true then (some false) else ((laws_toConsole.f k x362000 x362001 x362002 x362003 x362004 x362005 x362006).bind fun bt386 => ((laws_eqConsole.f k x384000 x384001 x384002 x384003 x384004 x384005 x384006 bt386.1 bt386.2.1 bt386.2.2.1 bt386.2.2.2.1 bt386.2.2.2.2.1 bt386.2.2.2.2.2.1 bt386.2.2.2.2.2.2).bind fun t395 => (if t395 = true then (some true) else (some false))))
def laws_FnExactFormatConsole.f (k : Nat) (a0_0 : Int) (a0_1 : Int) (l0_2 : List (S115)) (a0_3 : Int) (a0_4 : ByteArray) (a0_5 : ByteArray) (a0_6 : Int) : Option (Bool) := (laws_szConsole.f a0_0 a0_1 l0_2 a0_3 a0_4 a0_5 a0_6 1048576).bind fun t362 => (if t362 < 0 then (some true) else ((laws_toConsole.f k a0_0 a0_1 l0_2 a0_3 a0_4 a0_5 a0_6).bind fun bt363 => ((spec_FormatConsole.f k bt363.1 bt363.2.1 bt363.2.2.1 bt363.2.2.2.1 bt363.2.2.2.2.1 bt363.2.2.2.2.2.1 bt363.2.2.2.2.2.2).bind fun bt372 => ((laws_toConsole.f k a0_0 a0_1 l0_2 a0_3 a0_4 a0_5 a0_6).bind fun bt374 => ((impl_FormatConsole.f k bt374.1 bt374.2.1 bt374.2.2.1 bt374.2.2.2.1 bt374.2.2.2.2.1 bt374.2.2.2.2.2.1 bt374.2.2.2.2.2.2).bind fun bt384 => (if bt384.1.toList = bt372.1.toList then (laws_FnExactFormatConsole.j0 k (bt384.2 != bt372.2) a0_0 a0_1 l0_2 a0_3 a0_4 a0_5 a0_6 bt374.1 bt374.2.1 bt374.2.2.1 bt374.2.2.2.1 bt374.2.2.2.2.1 bt374.2.2.2.2.2.1 bt374.2.2.2.2.2.2) else (laws_FnExactFormatConsole.j0 k true a0_0 a0_1 l0_2 a0_3 a0_4 a0_5 a0_6 bt374.1 bt374.2.1 bt374.2.2.1 bt374.2.2.2.1 bt374.2.2.2.2.1 bt374.2.2.2.2.2.1 bt374.2.2.2.2.2.2)))))))
set_option maxHeartbeats 8000000 in
set_option maxRecDepth 100000 in
theorem laws_FnExactFormatConsole.calls (k : Nat) (a0_0 : Int) (a0_1 : Int) (A0_2 : Option Addr) (c0_2 : Nat) (l0_2 : List (S115)) (a0_3 : Int) (a0_4 : ByteArray) (a0_5 : ByteArray) (a0_6 : Int) (r : Bool) (w : World) (hr0_2 : Kd.C k115 w A0_2 l0_2.length l0_2) (hc0_2 : l0_2.length ≤ c0_2) (hG : Gl w) (h : laws_FnExactFormatConsole.f k a0_0 a0_1 l0_2 a0_3 a0_4 a0_5 a0_6 = some r) :
    Calls Tryd.prog 5 #[.agg #[.int .i64 a0_0, .int .i64 a0_1, .slice A0_2 l0_2.length c0_2, .int .i64 a0_3, .string a0_4, .string a0_5, .int .i64 a0_6]] w fun e w' => e = .returned (.bool r) ∧ Below w.heap.size w w' := by
  have hu49 := Tryd.underlying49
  have hu54 := Tryd.underlying54
  have HR0_2 := Aside0.mk hr0_2
  have HC0_2 := Aside0.mk hc0_2
  clear hr0_2 hc0_2
  have HG := Aside0.mk hG
  clear hG
  have HB := Aside0.mk (Below.refl w.heap.size w)
  unfold laws_FnExactFormatConsole.f at h
  have H := h
  clear h
  replace H := Option.bind_eq_some_iff.mp H
  obtain ⟨t362, A20, H⟩ := H
  (try dsimp only at H)
  have A2 := Aside0.mk A20
  clear A20
  by_cases c3 : t362 < 0
  · rw [if_pos c3] at H
    have c3b0 := decide_eq_true c3
    clear c3
    obtain rfl := Option.some.inj H
    go_enter Tryd.func5, Tryd.ntmps5
    go_wp2_with (first | ((with_reducible refine gate_dst (N := 1) rfl ?_); refine qbox (N := 1) (cs := #[.int .i64 a0_0, .int .i64 a0_1, .slice A0_2 l0_2.length c0_2, .int .i64 a0_3, .string a0_4, .string a0_5, .int .i64 a0_6]) (t := 49) ?_; intro gb361 hg w4 hbox hb; refine qs4 (below_step zz20 hb) (hbox) ((zz87 : w.heap.size ≤ gb361)) ((zz87 : w.heap.size ≤ gb361)) ?_; clear HB; intro HB BK361 GW361 GE361; clear hb hbox hg; obtain ⟨hcz5_0, hcz5_1, hcz5_2, hcz5_3, hcz5_4, hcz5_5, hcz5_6, hfz5_0, hfz5_1, hfz5_2, hfz5_3, hfz5_4, hfz5_5, hfz5_6⟩ := qc7 BK361.out) | ((with_reducible refine gate_callee (f := 24) rfl ?_); refine qcall 11 Tryd.func24 rfl #[.agg #[.int .i64 a0_0, .int .i64 a0_1, .slice A0_2 l0_2.length c0_2, .int .i64 a0_3, .string a0_4, .string a0_5, .int .i64 a0_6], .int .i64 1048576] ?_; (with_reducible refine (laws_szConsole.calls a0_0 a0_1 _ _ l0_2 a0_3 a0_4 a0_5 a0_6 1048576 t362 _ ?side1 ?side2 A2.out).mono ?_); (case side1 => exact zz54); (case side2 => exact zz0); rintro e w6 ⟨rfl, hb⟩; refine ⟨_, rfl, ?_⟩; refine qs2 (blk_below (qb BK361.out) hb) (below_step zz34 hb) ?_; clear BK361 HB; intro BK361 HB; (try clear hb); (try clear hb2); (try clear hk); (try clear hi)))
    go_ret
    exact ⟨zz9, zz34⟩
  rw [if_neg c3] at H
  have c3b0 := decide_eq_false c3
  clear c3
  replace H := Option.bind_eq_some_iff.mp H
  obtain ⟨⟨t363, t364, t365, t368, t369, t370, t371⟩, A70, H⟩ := H
  (try dsimp only at H)
  have A7 := Aside0.mk A70
  clear A70
  replace H := Option.bind_eq_some_iff.mp H
  obtain ⟨⟨t372, t373⟩, A80, H⟩ := H
  (try dsimp only at H)
  have A8 := Aside0.mk A80
  clear A80
  replace H := Option.bind_eq_some_iff.mp H
  obtain ⟨⟨t374, t375, t376, t379, t380, t381, t382⟩, A90, H⟩ := H
  (try dsimp only at H)
  have A9 := Aside0.mk A90
  clear A90
  replace H := Option.bind_eq_some_iff.mp H
  obtain ⟨⟨t384, t385⟩, A100, H⟩ := H
  (try dsimp only at H)
  have A10 := Aside0.mk A100
  clear A100
  have HC11 := Aside0.mk H
  clear H
  go_enter Tryd.func5, Tryd.ntmps5
  go_upto_region 8 with (first | ((with_reducible refine gate_dst (N := 1) rfl ?_); refine qbox (N := 1) (cs := #[.int .i64 a0_0, .int .i64 a0_1, .slice A0_2 l0_2.length c0_2, .int .i64 a0_3, .string a0_4, .string a0_5, .int .i64 a0_6]) (t := 49) ?_; intro gb361 hg w12 hbox hb; refine qs4 (below_step zz20 hb) (hbox) ((zz87 : w.heap.size ≤ gb361)) ((zz87 : w.heap.size ≤ gb361)) ?_; clear HB; intro HB BK361 GW361 GE361; clear hb hbox hg; obtain ⟨hcz13_0, hcz13_1, hcz13_2, hcz13_3, hcz13_4, hcz13_5, hcz13_6, hfz13_0, hfz13_1, hfz13_2, hfz13_3, hfz13_4, hfz13_5, hfz13_6⟩ := qc7 BK361.out) | ((with_reducible refine gate_callee (f := 24) rfl ?_); refine qcall 11 Tryd.func24 rfl #[.agg #[.int .i64 a0_0, .int .i64 a0_1, .slice A0_2 l0_2.length c0_2, .int .i64 a0_3, .string a0_4, .string a0_5, .int .i64 a0_6], .int .i64 1048576] ?_; (with_reducible refine (laws_szConsole.calls a0_0 a0_1 _ _ l0_2 a0_3 a0_4 a0_5 a0_6 1048576 t362 _ ?side1 ?side2 A2.out).mono ?_); (case side1 => exact zz54); (case side2 => exact zz0); rintro e w14 ⟨rfl, hb⟩; refine ⟨_, rfl, ?_⟩; refine qs2 (blk_below (qb BK361.out) hb) (below_step zz34 hb) ?_; clear BK361 HB; intro BK361 HB; (try clear hb); (try clear hb2); (try clear hk); (try clear hi); obtain ⟨hcz15_0, hcz15_1, hcz15_2, hcz15_3, hcz15_4, hcz15_5, hcz15_6, hfz15_0, hfz15_1, hfz15_2, hfz15_3, hfz15_4, hfz15_5, hfz15_6⟩ := qc7 BK361.out) | ((with_reducible refine gate_callee (f := 26) rfl ?_); refine qcall 16 Tryd.func26 rfl #[.agg #[.int .i64 a0_0, .int .i64 a0_1, .slice A0_2 l0_2.length c0_2, .int .i64 a0_3, .string a0_4, .string a0_5, .int .i64 a0_6]] ?_; (with_reducible refine (laws_toConsole.calls k a0_0 a0_1 _ _ l0_2 a0_3 a0_4 a0_5 a0_6 t363 t364 t365 t368 t369 t370 t371 _ ?side1 ?side2 A7.out).mono ?_); (case side1 => exact zz54); (case side2 => exact zz0); rintro e w16 ⟨v366, rfl, ho0, hb⟩; refine ⟨_, rfl, ?_⟩; refine qs3 (Kd.R_lower ho0 (below_size zz34)) (blk_below (qb BK361.out) hb) (below_step zz34 hb) ?_; clear BK361 HB; intro HO367 BK361 HB; (try clear hb); (try clear hb2); (try clear hk); (try clear hi); (try clear ho0); obtain ⟨Ao17, co17, eo17⟩ := Kd.R_slice HO367.out; subst eo17) | ((with_reducible refine gate_callee (f := 29) rfl ?_); refine qcall 17 Tryd.func29 rfl #[.agg #[.int .i64 t363, .int .i64 t364, .slice Ao17 t365.length co17, .int .i64 t368, .string t369, .string t370, .int .i64 t371]] ?_; (with_reducible refine (spec_FormatConsole.calls k t363 t364 _ _ t365 t368 t369 t370 t371 t372 t373 _ ?side1 ?side2 A8.out).mono ?_); (case side1 => repeat (first | exact (Kd.R_reads' HO367.out).2.2 | (with_reducible refine Kd.C_alloc ?_ _) | (with_reducible refine Kd.C_drewN ?_ _) | (with_reducible refine Kd.C_drew ?_))); (case side2 => exact (Kd.R_reads' HO367.out).2.1); rintro e w18 ⟨rfl, hb⟩; refine ⟨_, rfl, ?_⟩; refine qs3 (Kd.R_below (qr HO367.out) hb) (blk_below (qb BK361.out) hb) (below_step zz34 hb) ?_; clear HO367 BK361 HB; intro HO367 BK361 HB; (try clear hb); (try clear hb2); (try clear hk); (try clear hi); obtain ⟨hcz19_0, hcz19_1, hcz19_2, hcz19_3, hcz19_4, hcz19_5, hcz19_6, hfz19_0, hfz19_1, hfz19_2, hfz19_3, hfz19_4, hfz19_5, hfz19_6⟩ := qc7 BK361.out) | ((with_reducible refine gate_callee (f := 26) rfl ?_); refine qcall 21 Tryd.func26 rfl #[.agg #[.int .i64 a0_0, .int .i64 a0_1, .slice A0_2 l0_2.length c0_2, .int .i64 a0_3, .string a0_4, .string a0_5, .int .i64 a0_6]] ?_; (with_reducible refine (laws_toConsole.calls k a0_0 a0_1 _ _ l0_2 a0_3 a0_4 a0_5 a0_6 t374 t375 t376 t379 t380 t381 t382 _ ?side1 ?side2 A9.out).mono ?_); (case side1 => exact zz54); (case side2 => exact zz0); rintro e w20 ⟨v377, rfl, ho0, hb⟩; refine ⟨_, rfl, ?_⟩; refine qs4 (Kd.R_elder' (qr HO367.out) (Kd.R_base ho0) hb) (Kd.R_lower (Kd.R_new' ho0 (Kd.R_lt (qr HO367.out))) (below_size zz34)) (blk_below (qb BK361.out) hb) (below_step zz34 hb) ?_; clear HO367 BK361 HB; intro HO367 HO378 BK361 HB; (try clear hb); (try clear hb2); (try clear hk); (try clear hi); (try clear ho0)) | ((with_reducible refine gate_dst (N := 6) rfl ?_); refine qbox (N := 6) (cs := #[.int .i64 0, .int .i64 0, .slice none 0 0, .int .i64 0, .string (⟨#[]⟩ : ByteArray), .string (⟨#[]⟩ : ByteArray), .int .i64 0]) (t := 54) ?_; intro gb383 hg w21 hbox hb; refine qs9 (Kd.R_below (qr HO367.out) hb) (Kd.R_below (qr HO378.out) hb) (blk_below (qb BK361.out) hb) (below_step zz34 hb) (hbox) ((by rw [hg]; exact (below_size zz34) : w.heap.size ≤ gb383)) ((by rw [hg]; exact (below_size zz34) : w.heap.size ≤ gb383)) ((by rw [hg]; exact Nat.ne_of_lt (blk_lt (qb BK361.out)) : gb361 ≠ gb383)) ((by rw [hg]; exact Nat.ne_of_gt (blk_lt (qb BK361.out)) : gb383 ≠ gb361)) ?_; clear HO367 HO378 BK361 HB; intro HO367 HO378 BK361 HB BK383 GW383 GE383 NB361_383 NB383_361; clear hb hbox hg; have hnb22 := NB383_361.out; have hnc22 := NB361_383.out; obtain ⟨hcz23_0, hcz23_1, hcz23_2, hcz23_3, hcz23_4, hcz23_5, hcz23_6, hfz23_0, hfz23_1, hfz23_2, hfz23_3, hfz23_4, hfz23_5, hfz23_6⟩ := qc7 BK383.out; obtain ⟨Ao24, co24, eo24⟩ := Kd.R_slice HO378.out; subst eo24) | ((with_reducible refine gate_callee (f := 30) rfl ?_); refine qcall 24 Tryd.func30 rfl #[.agg #[.int .i64 t374, .int .i64 t375, .slice Ao24 t376.length co24, .int .i64 t379, .string t380, .string t381, .int .i64 t382]] ?_; (with_reducible refine (impl_FormatConsole.calls k t374 t375 _ _ t376 t379 t380 t381 t382 t384 t385 _ ?side1 ?side2 ?side3 A10.out).mono ?_); (case side1 => refine (Kd.R_reads' (e := 62) (base := w.heap.size) (ok := fun k_ => (True ∧ some k_ ≠ (.slice Ao17 t365.length co17 : Value).ownBlock)) (n := t376.length) (c := co24) ?_).2.2; exact zz82); (case side2 => exact (Kd.R_reads' HO378.out).2.1); (case side3 => exact Gl.below HG.out zz57); rintro e w25 ⟨rfl, hb⟩; refine ⟨_, rfl, ?_⟩; refine qs5 (Kd.R_below (by (with_reducible repeat (first | apply Kd.R_alloc | apply Kd.R_drewN | apply Kd.R_drew)); exact (Kd.R_mono (Kd.R_far (p := ⟨gb383, 6, none⟩) (Kd.R_far (p := ⟨gb383, 5, none⟩) (Kd.R_far (p := ⟨gb383, 4, none⟩) (Kd.R_far (p := ⟨gb383, 3, none⟩) (Kd.R_far (p := ⟨gb383, 2, none⟩) (Kd.R_far (p := ⟨gb383, 1, none⟩) (Kd.R_far (p := ⟨gb383, 0, none⟩) (Kd.R_types HO367.out BK383.out (by decide)) (fun _ hk => hk.2) (.int .i64 t374)) (fun _ hk => hk.2) (.int .i64 t375)) (fun _ hk => hk.2) (.slice Ao24 t376.length co24)) (fun _ hk => hk.2) (.int .i64 t379)) (fun _ hk => hk.2) (.string t380)) (fun _ hk => hk.2) (.string t381)) (fun _ hk => hk.2) (.int .i64 t382)) (fun _ h_ => h_.1))) hb) (Kd.R_below zz82 hb) (blk_below (g := gb361) (o := .cells #[.int .i64 a0_0, .int .i64 a0_1, .slice A0_2 l0_2.length c0_2, .int .i64 a0_3, .string a0_4, .string a0_5, .int .i64 a0_6] 49 (0, 0)) (by (with_reducible repeat (first | refine blk_drewN ?_ _ | refine blk_drew ?_ | refine blk_alloc ?_ _)); refine blk_far ?_ NB361_383.out _; (with_reducible repeat (first | refine blk_drewN ?_ _ | refine blk_drew ?_ | refine blk_alloc ?_ _)); refine blk_far ?_ NB361_383.out _; (with_reducible repeat (first | refine blk_drewN ?_ _ | refine blk_drew ?_ | refine blk_alloc ?_ _)); refine blk_far ?_ NB361_383.out _; (with_reducible repeat (first | refine blk_drewN ?_ _ | refine blk_drew ?_ | refine blk_alloc ?_ _)); refine blk_far ?_ NB361_383.out _; (with_reducible repeat (first | refine blk_drewN ?_ _ | refine blk_drew ?_ | refine blk_alloc ?_ _)); refine blk_far ?_ NB361_383.out _; (with_reducible repeat (first | refine blk_drewN ?_ _ | refine blk_drew ?_ | refine blk_alloc ?_ _)); refine blk_far ?_ NB361_383.out _; (with_reducible repeat (first | refine blk_drewN ?_ _ | refine blk_drew ?_ | refine blk_alloc ?_ _)); refine blk_far ?_ NB361_383.out _; (with_reducible repeat (first | refine blk_drewN ?_ _ | refine blk_drew ?_ | refine blk_alloc ?_ _)); exact BK361.out) hb) (blk_below (g := gb383) (o := .cells #[.int .i64 t374, .int .i64 t375, .slice Ao24 t376.length co24, .int .i64 t379, .string t380, .string t381, .int .i64 t382] 54 (0, 0)) (by (with_reducible repeat (first | refine blk_drewN ?_ _ | refine blk_drew ?_ | refine blk_alloc ?_ _)); refine blk_put (cs := #[.int .i64 t374, .int .i64 t375, .slice Ao24 t376.length co24, .int .i64 t379, .string t380, .string t381, .int .i64 0]) ?_ 6 _ rfl; (with_reducible repeat (first | refine blk_drewN ?_ _ | refine blk_drew ?_ | refine blk_alloc ?_ _)); refine blk_put (cs := #[.int .i64 t374, .int .i64 t375, .slice Ao24 t376.length co24, .int .i64 t379, .string t380, .string (⟨#[]⟩ : ByteArray), .int .i64 0]) ?_ 5 _ rfl; (with_reducible repeat (first | refine blk_drewN ?_ _ | refine blk_drew ?_ | refine blk_alloc ?_ _)); refine blk_put (cs := #[.int .i64 t374, .int .i64 t375, .slice Ao24 t376.length co24, .int .i64 t379, .string (⟨#[]⟩ : ByteArray), .string (⟨#[]⟩ : ByteArray), .int .i64 0]) ?_ 4 _ rfl; (with_reducible repeat (first | refine blk_drewN ?_ _ | refine blk_drew ?_ | refine blk_alloc ?_ _)); refine blk_put (cs := #[.int .i64 t374, .int .i64 t375, .slice Ao24 t376.length co24, .int .i64 0, .string (⟨#[]⟩ : ByteArray), .string (⟨#[]⟩ : ByteArray), .int .i64 0]) ?_ 3 _ rfl; (with_reducible repeat (first | refine blk_drewN ?_ _ | refine blk_drew ?_ | refine blk_alloc ?_ _)); refine blk_put (cs := #[.int .i64 t374, .int .i64 t375, .slice none 0 0, .int .i64 0, .string (⟨#[]⟩ : ByteArray), .string (⟨#[]⟩ : ByteArray), .int .i64 0]) ?_ 2 _ rfl; (with_reducible repeat (first | refine blk_drewN ?_ _ | refine blk_drew ?_ | refine blk_alloc ?_ _)); refine blk_put (cs := #[.int .i64 t374, .int .i64 0, .slice none 0 0, .int .i64 0, .string (⟨#[]⟩ : ByteArray), .string (⟨#[]⟩ : ByteArray), .int .i64 0]) ?_ 1 _ rfl; (with_reducible repeat (first | refine blk_drewN ?_ _ | refine blk_drew ?_ | refine blk_alloc ?_ _)); refine blk_put (cs := #[.int .i64 0, .int .i64 0, .slice none 0 0, .int .i64 0, .string (⟨#[]⟩ : ByteArray), .string (⟨#[]⟩ : ByteArray), .int .i64 0]) ?_ 0 _ rfl; (with_reducible repeat (first | refine blk_drewN ?_ _ | refine blk_drew ?_ | refine blk_alloc ?_ _)); exact BK383.out) hb) (below_step zz57 hb) ?_; clear HO367 HO378 BK361 BK383 HB; intro HO367 HO378 BK361 BK383 HB; (try clear hb); (try clear hb2); (try clear hk); (try clear hi)))
  (try simp only [Act.put, List.setIfInBounds_toArray, List.set_cons_zero, List.set_cons_succ])
  go_cut [34] (fun v34 wc => ∃ (kq : Nat) (x34_10 : Bool), v34 = .bool x34_10 ∧ Aside0 (laws_FnExactFormatConsole.j0 kq x34_10 a0_0 a0_1 l0_2 a0_3 a0_4 a0_5 a0_6 t374 t375 t376 t379 t380 t381 t382 = some r) ∧ Aside0 (kq ≤ k) ∧ Aside0 (Kd.R k62 62 wc w.heap.size (fun _ => True) (.slice Ao24 t376.length co24) t376) ∧ Aside0 (wc.heap[gb361]? = some (.cells #[.int .i64 a0_0, .int .i64 a0_1, (.slice A0_2 l0_2.length c0_2), .int .i64 a0_3, .string a0_4, .string a0_5, .int .i64 a0_6] 49 (0, 0))) ∧ Aside0 (wc.heap[gb383]? = some (.cells #[.int .i64 t374, .int .i64 t375, (.slice Ao24 t376.length co24), .int .i64 t379, .string t380, .string t381, .int .i64 t382] 54 (0, 0))) ∧ Aside0 (Below w.heap.size w wc))
  case first =>
    have H := HC11.out
    clear HC11
    by_cases c26 : t384.toList = t372.toList
    rotate_left
    · rw [if_neg c26] at H
      have c26b0 := beq_eq_false_iff_ne.mpr c26
      have c26b1 := bne_iff_ne.mpr c26
      (first | rw [c26b0] | (simp only [i64_w, i32_w]; rw [c26b0]) | skip)
      have H' := Aside0.mk H
      clear H
      go_wp2
      go_meet
      case rel => exact ⟨_, (true), zz4, H', ⟨zz2⟩, ⟨by (with_reducible repeat (first | apply Kd.R_alloc | apply Kd.R_drewN | apply Kd.R_drew)); exact Kd.R_mono HO378.out (fun _ hk => trivial)⟩, ⟨by (with_reducible repeat (first | refine blk_drewN ?_ _ | refine blk_drew ?_ | refine blk_alloc ?_ _)); exact BK361.out⟩, ⟨by (with_reducible repeat (first | refine blk_drewN ?_ _ | refine blk_drew ?_ | refine blk_alloc ?_ _)); exact BK383.out⟩, ⟨zz57⟩⟩
    rw [if_pos c26] at H
    have c26b0 := beq_iff_eq.mpr c26
    have c26b1 := bne_eq_false_iff_eq.mpr c26
    clear c26
    (first | rw [c26b0] | (simp only [i64_w, i32_w]; rw [c26b0]) | skip)
    have H' := Aside0.mk H
    clear H
    go_wp2
    go_meet
    case rel => exact ⟨_, ((t385 != t373)), zz4, H', ⟨zz2⟩, ⟨by (with_reducible repeat (first | apply Kd.R_alloc | apply Kd.R_drewN | apply Kd.R_drew)); exact Kd.R_mono HO378.out (fun _ hk => trivial)⟩, ⟨by (with_reducible repeat (first | refine blk_drewN ?_ _ | refine blk_drew ?_ | refine blk_alloc ?_ _)); exact BK361.out⟩, ⟨by (with_reducible repeat (first | refine blk_drewN ?_ _ | refine blk_drew ?_ | refine blk_alloc ?_ _)); exact BK383.out⟩, ⟨zz57⟩⟩
  case rest =>
    clear HC11
    try clear c2
    try clear p2
    try clear c3
    try clear c3b0
    try clear c5
    try clear c22
    try clear c24
    try clear c26
    try clear c26b0
    try clear c26b1
    try clear hcz13_0
    try clear hcz13_1
    try clear hcz13_2
    try clear hcz13_3
    try clear hcz13_4
    try clear hcz13_5
    try clear hcz13_6
    try clear hcz15_0
    try clear hcz15_1
    try clear hcz15_2
    try clear hcz15_3
    try clear hcz15_4
    try clear hcz15_5
    try clear hcz15_6
    try clear hcz19_0
    try clear hcz19_1
    try clear hcz19_2
    try clear hcz19_3
    try clear hcz19_4
    try clear hcz19_5
    try clear hcz19_6
    try clear hcz23_0
    try clear hcz23_1
    try clear hcz23_2
    try clear hcz23_3
    try clear hcz23_4
    try clear hcz23_5
    try clear hcz23_6
    try clear hcz5_0
    try clear hcz5_1
    try clear hcz5_2
    try clear hcz5_3
    try clear hcz5_4
    try clear hcz5_5
    try clear hcz5_6
    try clear hfz13_0
    try clear hfz13_1
    try clear hfz13_2
    try clear hfz13_3
    try clear hfz13_4
    try clear hfz13_5
    try clear hfz13_6
    try clear hfz15_0
    try clear hfz15_1
    try clear hfz15_2
    try clear hfz15_3
    try clear hfz15_4
    try clear hfz15_5
    try clear hfz15_6
    try clear hfz19_0
    try clear hfz19_1
    try clear hfz19_2
    try clear hfz19_3
    try clear hfz19_4
    try clear hfz19_5
    try clear hfz19_6
    try clear hfz23_0
    try clear hfz23_1
    try clear hfz23_2
    try clear hfz23_3
    try clear hfz23_4
    try clear hfz23_5
    try clear hfz23_6
    try clear hfz5_0
    try clear hfz5_1
    try clear hfz5_2
    try clear hfz5_3
    try clear hfz5_4
    try clear hfz5_5
    try clear hfz5_6
    obtain ⟨kq, x34_10, rfl, HA, HJ10, HO_384002, BK361, BK383, HB⟩ := hcut
    cases kq with
    | zero => exact absurd HA.out (by simp [laws_FnExactFormatConsole.j0])
    | succ kj10 =>
      have H := HA.out
      clear HA
      simp only [laws_FnExactFormatConsole.j0] at H
      by_cases c27 : x34_10 = true
      · subst c27
        rw [if_pos rfl] at H
        obtain rfl := Option.some.inj H
        go_wp2
        go_ret
        exact ⟨zz9, zz57⟩
      replace c27 := Bool.eq_false_iff.mpr c27
      subst c27
      rw [if_neg (show ¬ (false = true) by decide)] at H
      replace H := Option.bind_eq_some_iff.mp H
      obtain ⟨⟨t386, t387, t388, t391, t392, t393, t394⟩, A280, H⟩ := H
      (try dsimp only at H)
      have A28 := Aside0.mk A280
      clear A280
      replace H := Option.bind_eq_some_iff.mp H
      obtain ⟨t395, A290, H⟩ := H
      (try dsimp only at H)
      have A29 := Aside0.mk A290
      clear A290
      by_cases c30 : t395 = true
      · subst c30
        rw [if_pos rfl] at H
        obtain rfl := Option.some.inj H
        try go_wp2
        refine qs4 (Kd.R_drew HO_384002.out) (blk_drew BK361.out) (blk_drew BK383.out) (below_drew1 HB.out) ?_; clear HO_384002 BK361 BK383 HB; intro HO_384002 BK361 BK383 HB
        refine start_ (n := 5) (S := fun w' => w'.cell? ⟨gb383, 0, none⟩ = some (.int .i64 t374) ∧ w'.cell? ⟨gb383, 1, none⟩ = some (.int .i64 t375) ∧ w'.cell? ⟨gb383, 2, none⟩ = some (.slice Ao24 t376.length co24) ∧ w'.cell? ⟨gb383, 3, none⟩ = some (.int .i64 t379) ∧ w'.cell? ⟨gb383, 4, none⟩ = some (.string t380) ∧ w'.cell? ⟨gb383, 5, none⟩ = some (.string t381) ∧ w'.cell? ⟨gb383, 6, none⟩ = some (.int .i64 t382) ∧ w'.cell? ⟨gb361, 0, none⟩ = some (.int .i64 a0_0) ∧ w'.cell? ⟨gb361, 1, none⟩ = some (.int .i64 a0_1) ∧ w'.cell? ⟨gb361, 2, none⟩ = some (.slice A0_2 l0_2.length c0_2) ∧ w'.cell? ⟨gb361, 3, none⟩ = some (.int .i64 a0_3) ∧ w'.cell? ⟨gb361, 4, none⟩ = some (.string a0_4) ∧ w'.cell? ⟨gb361, 5, none⟩ = some (.string a0_5) ∧ w'.cell? ⟨gb361, 6, none⟩ = some (.int .i64 a0_6)) (ds := []) #[false, false, false, false, false] (by kernel_rfl) rfl rfl ⟨(blk_cell BK383.out 0).trans rfl, (blk_cell BK383.out 1).trans rfl, (blk_cell BK383.out 2).trans rfl, (blk_cell BK383.out 3).trans rfl, (blk_cell BK383.out 4).trans rfl, (blk_cell BK383.out 5).trans rfl, (blk_cell BK383.out 6).trans rfl, (blk_cell BK361.out 0).trans rfl, (blk_cell BK361.out 1).trans rfl, (blk_cell BK361.out 2).trans rfl, (blk_cell BK361.out 3).trans rfl, (blk_cell BK361.out 4).trans rfl, (blk_cell BK361.out 5).trans rfl, (blk_cell BK361.out 6).trans rfl⟩ (fun hHeld => ?_)
        generalize wc.drew = w31 at HO_384002 BK361 BK383 HB hHeld ⊢
        refine take_ (i := 0) (N := some 35) (v := ?_) (a' := ?_) #[true, false, false, false, false] rfl rfl (by kernel_rfl) (fun _ _ _ h => h) (Or.inl ⟨by rfl, ?_⟩) hHeld ?_ ?_
        rotate_left
        · rintro w' ⟨s0, s1, s2, s3, s4, s5, s6, s7, s8, s9, s10, s11, s12, s13⟩
          go_simp
          with_reducible rfl
        rotate_left
        · simp only [Act.put, List.setIfInBounds_toArray, List.set_cons_zero, List.set_cons_succ, i64_w, i32_w]
          rfl
        refine take_ (i := 1) (N := some 36) (v := ?_) (a' := ?_) #[true, true, false, false, false] rfl rfl (by kernel_rfl) (fun _ _ _ h => h) (Or.inl ⟨by rfl, ?_⟩) hHeld ?_ ?_
        rotate_left
        · rintro w' ⟨s0, s1, s2, s3, s4, s5, s6, s7, s8, s9, s10, s11, s12, s13⟩
          go_simp
          with_reducible rfl
        rotate_left
        · simp only [Act.put, List.setIfInBounds_toArray, List.set_cons_zero, List.set_cons_succ, i64_w, i32_w]
          rfl
        refine one_ (i := 2) (N := some 37) #[true, true, true, false, false] rfl rfl (by kernel_rfl) (by decide) (fun K hK => ?_)
        refine goes_ Tryd.func26 (by kernel_rfl) rfl #[.agg #[.int .i64 a0_0, .int .i64 a0_1, .slice A0_2 l0_2.length c0_2, .int .i64 a0_3, .string a0_4, .string a0_5, .int .i64 a0_6]] (by rfl) rfl rfl zz21 ?_
        with_reducible refine (laws_toConsole.calls kj10 a0_0 a0_1 _ _ l0_2 a0_3 a0_4 a0_5 a0_6 t386 t387 t388 t391 t392 t393 t394 _ ?side1 ?side2 A28.out).mono ?_
        (case side1 => exact zz54)
        (case side2 => exact zz0)
        rintro e w32 ⟨v389, rfl, ho0, hb⟩
        refine ⟨_, rfl, ?_⟩
        refine qs5 (Kd.R_elder' (qr HO_384002.out) (Kd.R_base ho0) hb) (Kd.R_lower (Kd.R_new' ho0 (Kd.R_lt (qr HO_384002.out))) (below_size zz57)) (blk_below (qb BK361.out) hb) (blk_below (qb BK383.out) hb) (below_step zz57 hb) ?_; clear HO_384002 BK361 BK383 HB; intro HO_384002 HO390 BK361 BK383 HB
        (try clear hb)
        (try clear hb2)
        (try clear hk)
        (try clear hi)
        (try clear ho0)
        obtain ⟨Ao33, co33, eo33⟩ := Kd.R_slice HO390.out
        (first | subst eo33 | (injection eo33 with f1_ f2_ f3_; have f4_ := f1_.symm; have f5_ := f3_.symm; clear f1_ f2_ f3_; subst f4_; subst f5_))
        refine hK.out _ _ ⟨(blk_cell BK383.out 0).trans rfl, (blk_cell BK383.out 1).trans rfl, (blk_cell BK383.out 2).trans rfl, (blk_cell BK383.out 3).trans rfl, (blk_cell BK383.out 4).trans rfl, (blk_cell BK383.out 5).trans rfl, (blk_cell BK383.out 6).trans rfl, (blk_cell BK361.out 0).trans rfl, (blk_cell BK361.out 1).trans rfl, (blk_cell BK361.out 2).trans rfl, (blk_cell BK361.out 3).trans rfl, (blk_cell BK361.out 4).trans rfl, (blk_cell BK361.out 5).trans rfl, (blk_cell BK361.out 6).trans rfl⟩ (fun hHeld => ?_)
        clear hK K
        refine norm_ (a' := ?_) ?_ ?_
        rotate_left
        · show Act.put _ (some 37) _ = _
          simp only [Act.put, List.setIfInBounds_toArray, List.set_cons_zero, List.set_cons_succ, i64_w, i32_w]
          rfl
        refine one_ (i := 3) (N := some 38) #[true, true, true, true, false] rfl rfl (by kernel_rfl) (by decide) (fun K hK => ?_)
        refine goes_ Tryd.func28 (by kernel_rfl) rfl #[.agg #[.int .i64 t374, .int .i64 t375, .slice Ao24 t376.length co24, .int .i64 t379, .string t380, .string t381, .int .i64 t382], .agg #[.int .i64 t386, .int .i64 t387, .slice Ao33 t388.length co33, .int .i64 t391, .string t392, .string t393, .int .i64 t394]] (by rfl) rfl rfl zz21 ?_
        with_reducible refine (laws_eqConsole.calls kj10 t374 t375 _ _ t376 t379 t380 t381 t382 t386 t387 _ _ t388 t391 t392 t393 t394 true _ ?side1 ?side2 ?side3 ?side4 A29.out).mono ?_
        (case side1 => repeat (first | exact (Kd.R_reads' HO_384002.out).2.2 | (with_reducible refine Kd.C_alloc ?_ _) | (with_reducible refine Kd.C_drewN ?_ _) | (with_reducible refine Kd.C_drew ?_)))
        (case side2 => exact (Kd.R_reads' HO_384002.out).2.1)
        (case side3 => repeat (first | exact (Kd.R_reads' HO390.out).2.2 | (with_reducible refine Kd.C_alloc ?_ _) | (with_reducible refine Kd.C_drewN ?_ _) | (with_reducible refine Kd.C_drew ?_)))
        (case side4 => exact (Kd.R_reads' HO390.out).2.1)
        rintro e w34 ⟨rfl, hb⟩
        refine ⟨_, rfl, ?_⟩
        refine qs5 (Kd.R_below (qr HO_384002.out) hb) (Kd.R_below (qr HO390.out) hb) (blk_below (qb BK361.out) hb) (blk_below (qb BK383.out) hb) (below_step zz57 hb) ?_; clear HO_384002 HO390 BK361 BK383 HB; intro HO_384002 HO390 BK361 BK383 HB
        (try clear hb)
        (try clear hb2)
        (try clear hk)
        (try clear hi)
        refine hK.out _ _ ⟨(blk_cell BK383.out 0).trans rfl, (blk_cell BK383.out 1).trans rfl, (blk_cell BK383.out 2).trans rfl, (blk_cell BK383.out 3).trans rfl, (blk_cell BK383.out 4).trans rfl, (blk_cell BK383.out 5).trans rfl, (blk_cell BK383.out 6).trans rfl, (blk_cell BK361.out 0).trans rfl, (blk_cell BK361.out 1).trans rfl, (blk_cell BK361.out 2).trans rfl, (blk_cell BK361.out 3).trans rfl, (blk_cell BK361.out 4).trans rfl, (blk_cell BK361.out 5).trans rfl, (blk_cell BK361.out 6).trans rfl⟩ (fun hHeld => ?_)
        clear hK K
        refine norm_ (a' := ?_) ?_ ?_
        rotate_left
        · show Act.put _ (some 38) _ = _
          simp only [Act.put, List.setIfInBounds_toArray, List.set_cons_zero, List.set_cons_succ, i64_w, i32_w]
          rfl
        refine pure_ (i := 4) (N := some 39) (v := ?_) (a' := ?_) #[true, true, true, true, true] rfl rfl (by kernel_rfl) (fun _ _ _ h => h) (Or.inl ⟨by rfl, ?_⟩) ?_ ?_
        rotate_left
        · intro w'
          go_simp
          with_reducible rfl
        rotate_left
        · simp only [Act.put, List.setIfInBounds_toArray, List.set_cons_zero, List.set_cons_succ, i64_w, i32_w]
          rfl
        refine done_ (by kernel_rfl) ?_
        try go_wp2
        go_ret
        exact ⟨zz9, zz57⟩
      replace c30 := Bool.eq_false_iff.mpr c30
      subst c30
      rw [if_neg (show ¬ (false = true) by decide)] at H
      obtain rfl := Option.some.inj H
      try go_wp2
      refine qs4 (Kd.R_drew HO_384002.out) (blk_drew BK361.out) (blk_drew BK383.out) (below_drew1 HB.out) ?_; clear HO_384002 BK361 BK383 HB; intro HO_384002 BK361 BK383 HB
      refine start_ (n := 5) (S := fun w' => w'.cell? ⟨gb383, 0, none⟩ = some (.int .i64 t374) ∧ w'.cell? ⟨gb383, 1, none⟩ = some (.int .i64 t375) ∧ w'.cell? ⟨gb383, 2, none⟩ = some (.slice Ao24 t376.length co24) ∧ w'.cell? ⟨gb383, 3, none⟩ = some (.int .i64 t379) ∧ w'.cell? ⟨gb383, 4, none⟩ = some (.string t380) ∧ w'.cell? ⟨gb383, 5, none⟩ = some (.string t381) ∧ w'.cell? ⟨gb383, 6, none⟩ = some (.int .i64 t382) ∧ w'.cell? ⟨gb361, 0, none⟩ = some (.int .i64 a0_0) ∧ w'.cell? ⟨gb361, 1, none⟩ = some (.int .i64 a0_1) ∧ w'.cell? ⟨gb361, 2, none⟩ = some (.slice A0_2 l0_2.length c0_2) ∧ w'.cell? ⟨gb361, 3, none⟩ = some (.int .i64 a0_3) ∧ w'.cell? ⟨gb361, 4, none⟩ = some (.string a0_4) ∧ w'.cell? ⟨gb361, 5, none⟩ = some (.string a0_5) ∧ w'.cell? ⟨gb361, 6, none⟩ = some (.int .i64 a0_6)) (ds := []) #[false, false, false, false, false] (by kernel_rfl) rfl rfl ⟨(blk_cell BK383.out 0).trans rfl, (blk_cell BK383.out 1).trans rfl, (blk_cell BK383.out 2).trans rfl, (blk_cell BK383.out 3).trans rfl, (blk_cell BK383.out 4).trans rfl, (blk_cell BK383.out 5).trans rfl, (blk_cell BK383.out 6).trans rfl, (blk_cell BK361.out 0).trans rfl, (blk_cell BK361.out 1).trans rfl, (blk_cell BK361.out 2).trans rfl, (blk_cell BK361.out 3).trans rfl, (blk_cell BK361.out 4).trans rfl, (blk_cell BK361.out 5).trans rfl, (blk_cell BK361.out 6).trans rfl⟩ (fun hHeld => ?_)
      generalize wc.drew = w35 at HO_384002 BK361 BK383 HB hHeld ⊢
      refine take_ (i := 0) (N := some 35) (v := ?_) (a' := ?_) #[true, false, false, false, false] rfl rfl (by kernel_rfl) (fun _ _ _ h => h) (Or.inl ⟨by rfl, ?_⟩) hHeld ?_ ?_
      rotate_left
      · rintro w' ⟨s0, s1, s2, s3, s4, s5, s6, s7, s8, s9, s10, s11, s12, s13⟩
        go_simp
        with_reducible rfl
      rotate_left
      · simp only [Act.put, List.setIfInBounds_toArray, List.set_cons_zero, List.set_cons_succ, i64_w, i32_w]
        rfl
      refine take_ (i := 1) (N := some 36) (v := ?_) (a' := ?_) #[true, true, false, false, false] rfl rfl (by kernel_rfl) (fun _ _ _ h => h) (Or.inl ⟨by rfl, ?_⟩) hHeld ?_ ?_
      rotate_left
      · rintro w' ⟨s0, s1, s2, s3, s4, s5, s6, s7, s8, s9, s10, s11, s12, s13⟩
        go_simp
        with_reducible rfl
      rotate_left
      · simp only [Act.put, List.setIfInBounds_toArray, List.set_cons_zero, List.set_cons_succ, i64_w, i32_w]
        rfl
      refine one_ (i := 2) (N := some 37) #[true, true, true, false, false] rfl rfl (by kernel_rfl) (by decide) (fun K hK => ?_)
      refine goes_ Tryd.func26 (by kernel_rfl) rfl #[.agg #[.int .i64 a0_0, .int .i64 a0_1, .slice A0_2 l0_2.length c0_2, .int .i64 a0_3, .string a0_4, .string a0_5, .int .i64 a0_6]] (by rfl) rfl rfl zz21 ?_
      with_reducible refine (laws_toConsole.calls kj10 a0_0 a0_1 _ _ l0_2 a0_3 a0_4 a0_5 a0_6 t386 t387 t388 t391 t392 t393 t394 _ ?side1 ?side2 A28.out).mono ?_
      (case side1 => exact zz54)
      (case side2 => exact zz0)
      rintro e w36 ⟨v389, rfl, ho0, hb⟩
      refine ⟨_, rfl, ?_⟩
      refine qs5 (Kd.R_elder' (qr HO_384002.out) (Kd.R_base ho0) hb) (Kd.R_lower (Kd.R_new' ho0 (Kd.R_lt (qr HO_384002.out))) (below_size zz57)) (blk_below (qb BK361.out) hb) (blk_below (qb BK383.out) hb) (below_step zz57 hb) ?_; clear HO_384002 BK361 BK383 HB; intro HO_384002 HO390 BK361 BK383 HB
      (try clear hb)
      (try clear hb2)
      (try clear hk)
      (try clear hi)
      (try clear ho0)
      obtain ⟨Ao37, co37, eo37⟩ := Kd.R_slice HO390.out
      (first | subst eo37 | (injection eo37 with f1_ f2_ f3_; have f4_ := f1_.symm; have f5_ := f3_.symm; clear f1_ f2_ f3_; subst f4_; subst f5_))
      refine hK.out _ _ ⟨(blk_cell BK383.out 0).trans rfl, (blk_cell BK383.out 1).trans rfl, (blk_cell BK383.out 2).trans rfl, (blk_cell BK383.out 3).trans rfl, (blk_cell BK383.out 4).trans rfl, (blk_cell BK383.out 5).trans rfl, (blk_cell BK383.out 6).trans rfl, (blk_cell BK361.out 0).trans rfl, (blk_cell BK361.out 1).trans rfl, (blk_cell BK361.out 2).trans rfl, (blk_cell BK361.out 3).trans rfl, (blk_cell BK361.out 4).trans rfl, (blk_cell BK361.out 5).trans rfl, (blk_cell BK361.out 6).trans rfl⟩ (fun hHeld => ?_)
      clear hK K
      refine norm_ (a' := ?_) ?_ ?_
      rotate_left
      · show Act.put _ (some 37) _ = _
        simp only [Act.put, List.setIfInBounds_toArray, List.set_cons_zero, List.set_cons_succ, i64_w, i32_w]
        rfl
      refine one_ (i := 3) (N := some 38) #[true, true, true, true, false] rfl rfl (by kernel_rfl) (by decide) (fun K hK => ?_)
      refine goes_ Tryd.func28 (by kernel_rfl) rfl #[.agg #[.int .i64 t374, .int .i64 t375, .slice Ao24 t376.length co24, .int .i64 t379, .string t380, .string t381, .int .i64 t382], .agg #[.int .i64 t386, .int .i64 t387, .slice Ao37 t388.length co37, .int .i64 t391, .string t392, .string t393, .int .i64 t394]] (by rfl) rfl rfl zz21 ?_
      with_reducible refine (laws_eqConsole.calls kj10 t374 t375 _ _ t376 t379 t380 t381 t382 t386 t387 _ _ t388 t391 t392 t393 t394 false _ ?side1 ?side2 ?side3 ?side4 A29.out).mono ?_
      (case side1 => repeat (first | exact (Kd.R_reads' HO_384002.out).2.2 | (with_reducible refine Kd.C_alloc ?_ _) | (with_reducible refine Kd.C_drewN ?_ _) | (with_reducible refine Kd.C_drew ?_)))
      (case side2 => exact (Kd.R_reads' HO_384002.out).2.1)
      (case side3 => repeat (first | exact (Kd.R_reads' HO390.out).2.2 | (with_reducible refine Kd.C_alloc ?_ _) | (with_reducible refine Kd.C_drewN ?_ _) | (with_reducible refine Kd.C_drew ?_)))
      (case side4 => exact (Kd.R_reads' HO390.out).2.1)
      rintro e w38 ⟨rfl, hb⟩
      refine ⟨_, rfl, ?_⟩
      refine qs5 (Kd.R_below (qr HO_384002.out) hb) (Kd.R_below (qr HO390.out) hb) (blk_below (qb BK361.out) hb) (blk_below (qb BK383.out) hb) (below_step zz57 hb) ?_; clear HO_384002 HO390 BK361 BK383 HB; intro HO_384002 HO390 BK361 BK383 HB
      (try clear hb)
      (try clear hb2)
      (try clear hk)
      (try clear hi)
      refine hK.out _ _ ⟨(blk_cell BK383.out 0).trans rfl, (blk_cell BK383.out 1).trans rfl, (blk_cell BK383.out 2).trans rfl, (blk_cell BK383.out 3).trans rfl, (blk_cell BK383.out 4).trans rfl, (blk_cell BK383.out 5).trans rfl, (blk_cell BK383.out 6).trans rfl, (blk_cell BK361.out 0).trans rfl, (blk_cell BK361.out 1).trans rfl, (blk_cell BK361.out 2).trans rfl, (blk_cell BK361.out 3).trans rfl, (blk_cell BK361.out 4).trans rfl, (blk_cell BK361.out 5).trans rfl, (blk_cell BK361.out 6).trans rfl⟩ (fun hHeld => ?_)
      clear hK K
      refine norm_ (a' := ?_) ?_ ?_
      rotate_left
      · show Act.put _ (some 38) _ = _
        simp only [Act.put, List.setIfInBounds_toArray, List.set_cons_zero, List.set_cons_succ, i64_w, i32_w]
        rfl
      refine pure_ (i := 4) (N := some 39) (v := ?_) (a' := ?_) #[true, true, true, true, true] rfl rfl (by kernel_rfl) (fun _ _ _ h => h) (Or.inl ⟨by rfl, ?_⟩) ?_ ?_
      rotate_left
      · intro w'
        go_simp
        with_reducible rfl
      rotate_left
      · simp only [Act.put, List.setIfInBounds_toArray, List.set_cons_zero, List.set_cons_succ, i64_w, i32_w]
        rfl
      refine done_ (by kernel_rfl) ?_
      try go_wp2
      go_ret
      exact ⟨zz9, zz57⟩


/-! ### laws_vBig: function 6 -/
end Go.Proofs.YtneaeaoemhghdaaDoor.G
