/- Texts of this seat, joined: what the claim's last text rests on. Some began as words of the kit's print; what is not needed is left out. -/
import Derived.Test.YtneaeaoemhghdaaDoorBm3
import Derived.Test.YtneaeaoemhghdaaDoorBm2
-- Written by a program of this session (wip/pd.py), which calls the kit's print; externals' contracts by hand.
namespace Go.Proofs.YtneaeaoemhghdaaDoor.G
open Go.Proofs.YtneaeaoemhghdaaDoorQ
open Go.RowKit Go.Proofs.YtneaeaoemhghdaaDoorW.PrintWords Go.Proofs.YtneaeaoemhghdaaDoorW.PrintLast Go.Proofs.YtneaeaoemhghdaaDoorW.PrintMore
attribute [local go_sem] max2_int min2_int max_two min_two max_three min_three max_four min_four   -- for this text's walks alone
set_option linter.unusedVariables false
set_option linter.unusedSimpArgs false

/-! ### impl_IsShop: function 32 -/
mutual
def impl_IsShop.j0 : Nat → Bool → Int → Int → List (S62) → Int → Option (Bool)
  | 0, _, _, _, _, _ => none
  | k + 1, x26, x228000, x228001, x228002, x228003 => if x26 = true then (some false) else (impl_IsShop.l0 k x228002 (x228002.length : Int) 0 x228000 x228001 x228002 x228003)
def impl_IsShop.l0 : Nat → List (S62) → Int → Int → Int → Int → List (S62) → Int → Option (Bool)
  | 0, _, _, _, _, _, _, _ => none
  | k + 1, x28, x29, x30, x228000, x228001, x228002, x228003 => if x30 < x29 then (if 0 ≤ x30 then (if x30 < (x28.length : Int) then ((impl_Shop_isCarpet.f k x228000 x228001 x228002 x228003 ((rd_T62 x28 x30).f0) ((rd_T62 x28 x30).f1) ((rd_T62 x28 x30).f2) ((rd_T62 x28 x30).f3) ((rd_T62 x28 x30).f4)).bind fun t233 => (if t233 = true then (if ((rd_T62 x28 x30).f2) = 1 then ((impl_Shop_onLoom.f x228000 x228001 x228002 x228003 ((rd_T62 x28 x30).f3)).bind fun t234 => (if t234 = x30 then (impl_IsShop.l0 k x28 x29 (wrap64 (x30 + 1)) x228000 x228001 x228002 x228003) else (some false))) else (impl_IsShop.l0 k x28 x29 (wrap64 (x30 + 1)) x228000 x228001 x228002 x228003)) else (some false))) else (none)) else (none)) else (some true)
end
def impl_IsShop.f (k : Nat) (a0_0 : Int) (a0_1 : Int) (l0_2 : List (S62)) (a0_3 : Int) : Option (Bool) := (impl_isDay.f a0_0).bind fun t228 => (if t228 = true then ((impl_in.f a0_1 1 4).bind fun t229 => (if t229 = true then (if (l0_2.length : Int) > 8 then (impl_IsShop.j0 k true a0_0 a0_1 l0_2 a0_3) else ((impl_in.f a0_3 0 1000000).bind fun t230 => (impl_IsShop.j0 k (!t230) a0_0 a0_1 l0_2 a0_3))) else (impl_IsShop.j0 k true a0_0 a0_1 l0_2 a0_3))) else (impl_IsShop.j0 k true a0_0 a0_1 l0_2 a0_3))
set_option maxHeartbeats 8000000 in
set_option maxRecDepth 100000 in
theorem impl_IsShop.calls (k : Nat) (a0_0 : Int) (a0_1 : Int) (A0_2 : Option Addr) (c0_2 : Nat) (l0_2 : List (S62)) (a0_3 : Int) (r : Bool) (w : World) (hr0_2 : Kd.C k62 w A0_2 l0_2.length l0_2) (hc0_2 : l0_2.length ≤ c0_2) (h : impl_IsShop.f k a0_0 a0_1 l0_2 a0_3 = some r) :
    Calls Tryd.prog 32 #[.agg #[.int .i64 a0_0, .int .i64 a0_1, .slice A0_2 l0_2.length c0_2, .int .i64 a0_3]] w fun e w' => e = .returned (.bool r) ∧ Below w.heap.size w w' := by
  have hu26 := Tryd.underlying26
  have hu62 := Tryd.underlying62
  have HR0_2 := Aside0.mk hr0_2
  have HC0_2 := Aside0.mk hc0_2
  clear hr0_2 hc0_2
  have HB := Aside0.mk (Below.refl w.heap.size w)
  unfold impl_IsShop.f at h
  have H := h
  clear h
  have HC2 := Aside0.mk H
  clear H
  go_enter Tryd.func32, Tryd.ntmps32
  go_upto_region 1 with (first | ((with_reducible refine gate_dst (N := 1) rfl ?_); (try (refine gate_guard (by rfl) ?_; dsimp only)); refine qbox (N := 1) (cs := #[.int .i64 a0_0, .int .i64 a0_1, .slice A0_2 l0_2.length c0_2, .int .i64 a0_3]) (t := 26) ?_; intro gb227 hg w3 hbox hb; refine qs4 (below_step zz20 hb) (hbox) ((zz87 : w.heap.size ≤ gb227)) ((zz87 : w.heap.size ≤ gb227)) ?_; clear HB; intro HB BK227 GW227 GE227; clear hb hbox hg))
  (try simp only [Act.put, List.setIfInBounds_toArray, List.set_cons_zero, List.set_cons_succ])
  go_cut [26] (fun v26 wc => ∃ (kq : Nat) (x26_1 : Bool), v26 = .bool x26_1 ∧ Aside0 (impl_IsShop.j0 kq x26_1 a0_0 a0_1 l0_2 a0_3 = some r) ∧ Aside0 (kq ≤ k) ∧ Aside0 (wc.heap[gb227]? = some (.cells #[.int .i64 a0_0, .int .i64 a0_1, (.slice A0_2 l0_2.length c0_2), .int .i64 a0_3] 26 (0, 0))) ∧ Aside0 (Below w.heap.size w wc))
  case first =>
    have H := HC2.out
    clear HC2
    replace H := Option.bind_eq_some_iff.mp H
    obtain ⟨t228, A40, H⟩ := H
    (try dsimp only at H)
    have A4 := Aside0.mk A40
    clear A40
    by_cases c5 : t228 = true
    rotate_left
    · replace c5 := Bool.eq_false_iff.mpr c5
      subst c5
      rw [if_neg (show ¬ (false = true) by decide)] at H
      have H' := Aside0.mk H
      clear H
      obtain ⟨hcz13_0, hcz13_1, hcz13_2, hcz13_3, hfz13_0, hfz13_1, hfz13_2, hfz13_3⟩ := qc4 BK227.out
      go_wp2_with (first | ((with_reducible refine gate_callee (f := 35) rfl ?_); refine qcall 7 Tryd.func35 rfl #[.int .i64 a0_0] ?_; (with_reducible refine (impl_isDay.calls a0_0 false _ A4.out).mono ?_); rintro e w' ⟨rfl, ⟨nd, rfl⟩⟩; refine ⟨_, rfl, ?_⟩))
      go_meet
      case rel => exact ⟨_, (true), zz4, H', ⟨zz2⟩, ⟨zz13⟩, ⟨zz24⟩⟩
    subst c5
    rw [if_pos rfl] at H
    replace H := Option.bind_eq_some_iff.mp H
    obtain ⟨t229, A60, H⟩ := H
    (try dsimp only at H)
    have A6 := Aside0.mk A60
    clear A60
    by_cases c7 : t229 = true
    rotate_left
    · replace c7 := Bool.eq_false_iff.mpr c7
      subst c7
      rw [if_neg (show ¬ (false = true) by decide)] at H
      have H' := Aside0.mk H
      clear H
      obtain ⟨hcz12_0, hcz12_1, hcz12_2, hcz12_3, hfz12_0, hfz12_1, hfz12_2, hfz12_3⟩ := qc4 BK227.out
      go_wp2_with (first | ((with_reducible refine gate_callee (f := 35) rfl ?_); refine qcall 7 Tryd.func35 rfl #[.int .i64 a0_0] ?_; (with_reducible refine (impl_isDay.calls a0_0 true _ A4.out).mono ?_); rintro e w' ⟨rfl, ⟨nd, rfl⟩⟩; refine ⟨_, rfl, ?_⟩) | (go_at_call 40; (with_reducible refine (impl_in.calls a0_1 1 4 false _ A6.out).mono ?_); rintro e w' ⟨rfl, ⟨nd, rfl⟩⟩))
      go_meet
      case rel => exact ⟨_, (true), zz4, H', ⟨zz2⟩, ⟨zz13⟩, ⟨zz24⟩⟩
    subst c7
    rw [if_pos rfl] at H
    by_cases c8 : (l0_2.length : Int) > 8
    · rw [if_pos c8] at H
      have c8b0 := decide_eq_true c8
      have c8b1 : decide (8 < l0_2.length) = true := decide_eq_true (by omega)
      clear c8
      (first | rw [c8b0] | (simp only [i64_w, i32_w]; rw [c8b0]) | skip)
      have H' := Aside0.mk H
      clear H
      obtain ⟨hcz9_0, hcz9_1, hcz9_2, hcz9_3, hfz9_0, hfz9_1, hfz9_2, hfz9_3⟩ := qc4 BK227.out
      go_wp2_with (first | ((with_reducible refine gate_callee (f := 35) rfl ?_); refine qcall 7 Tryd.func35 rfl #[.int .i64 a0_0] ?_; (with_reducible refine (impl_isDay.calls a0_0 true _ A4.out).mono ?_); rintro e w' ⟨rfl, ⟨nd, rfl⟩⟩; refine ⟨_, rfl, ?_⟩) | (go_at_call 40; (with_reducible refine (impl_in.calls a0_1 1 4 true _ A6.out).mono ?_); rintro e w' ⟨rfl, ⟨nd, rfl⟩⟩))
      go_meet
      case rel => exact ⟨_, (true), zz4, H', ⟨zz2⟩, ⟨zz13⟩, ⟨zz24⟩⟩
    rw [if_neg c8] at H
    have c8b0 := decide_eq_false c8
    have c8b1 : decide (8 < l0_2.length) = false := decide_eq_false (by omega)
    clear c8
    (first | rw [c8b0] | (simp only [i64_w, i32_w]; rw [c8b0]) | skip)
    replace H := Option.bind_eq_some_iff.mp H
    obtain ⟨t230, A100, H⟩ := H
    (try dsimp only at H)
    have A10 := Aside0.mk A100
    clear A100
    have H' := Aside0.mk H
    clear H
    obtain ⟨hcz11_0, hcz11_1, hcz11_2, hcz11_3, hfz11_0, hfz11_1, hfz11_2, hfz11_3⟩ := qc4 BK227.out
    go_wp2_with (first | ((with_reducible refine gate_callee (f := 35) rfl ?_); refine qcall 7 Tryd.func35 rfl #[.int .i64 a0_0] ?_; (with_reducible refine (impl_isDay.calls a0_0 true _ A4.out).mono ?_); rintro e w' ⟨rfl, ⟨nd, rfl⟩⟩; refine ⟨_, rfl, ?_⟩) | (go_at_call 40; (with_reducible refine (impl_in.calls a0_1 1 4 true _ A6.out).mono ?_); rintro e w' ⟨rfl, ⟨nd, rfl⟩⟩) | (go_at_call 40; (with_reducible refine (impl_in.calls a0_3 0 1000000 t230 _ A10.out).mono ?_); rintro e w' ⟨rfl, ⟨nd, rfl⟩⟩))
    go_meet
    case rel => exact ⟨_, (!t230), zz4, H', ⟨zz2⟩, ⟨zz13⟩, ⟨zz24⟩⟩
  case rest =>
    clear HC2
    try clear p2
    try clear c3
    try clear c5
    try clear c7
    try clear c8
    try clear c8b0
    try clear c8b1
    try clear hcz11_0
    try clear hcz11_1
    try clear hcz11_2
    try clear hcz11_3
    try clear hcz12_0
    try clear hcz12_1
    try clear hcz12_2
    try clear hcz12_3
    try clear hcz13_0
    try clear hcz13_1
    try clear hcz13_2
    try clear hcz13_3
    try clear hcz9_0
    try clear hcz9_1
    try clear hcz9_2
    try clear hcz9_3
    try clear hfz11_0
    try clear hfz11_1
    try clear hfz11_2
    try clear hfz11_3
    try clear hfz12_0
    try clear hfz12_1
    try clear hfz12_2
    try clear hfz12_3
    try clear hfz13_0
    try clear hfz13_1
    try clear hfz13_2
    try clear hfz13_3
    try clear hfz9_0
    try clear hfz9_1
    try clear hfz9_2
    try clear hfz9_3
    obtain ⟨kq, x26_1, rfl, HA, HJ1, BK227, HB⟩ := hcut
    cases kq with
    | zero => exact absurd HA.out (by simp [impl_IsShop.j0])
    | succ kj1 =>
      have H := HA.out
      clear HA
      simp only [impl_IsShop.j0] at H
      by_cases c14 : x26_1 = true
      · subst c14
        rw [if_pos rfl] at H
        obtain rfl := Option.some.inj H
        go_wp2
        go_ret
        exact ⟨zz9, zz24⟩
      replace c14 := Bool.eq_false_iff.mpr c14
      subst c14
      rw [if_neg (show ¬ (false = true) by decide)] at H
      have H' := Aside0.mk H
      clear H
      obtain ⟨hcz15_0, hcz15_1, hcz15_2, hcz15_3, hfz15_0, hfz15_1, hfz15_2, hfz15_3⟩ := qc4 BK227.out
      go_wp2
      go_loopg [30] kj1 (fun kq v30 w' => ∃ (x30_2 : Int), v30 = .int .i64 x30_2 ∧ Aside0 (impl_IsShop.l0 kq l0_2 (l0_2.length : Int) x30_2 a0_0 a0_1 l0_2 a0_3 = some r) ∧ Aside0 (kq ≤ kj1) ∧ Aside0 (w'.heap[gb227]? = some (.cells #[.int .i64 a0_0, .int .i64 a0_1, (.slice A0_2 l0_2.length c0_2), .int .i64 a0_3] 26 (0, 0))) ∧ Aside0 (Below w.heap.size w w'))
      case atStart => exact ⟨(0), zz4, H', ⟨Nat.le_refl _⟩, ⟨zz13⟩, ⟨zz24⟩⟩
      case round =>
        clear H'
        try clear c1
        try clear p2
        try clear c3
        try clear c5
        try clear c7
        try clear c8
        try clear c8b0
        try clear c8b1
        try clear c14
        try clear hcz11_0
        try clear hcz11_1
        try clear hcz11_2
        try clear hcz11_3
        try clear hcz12_0
        try clear hcz12_1
        try clear hcz12_2
        try clear hcz12_3
        try clear hcz13_0
        try clear hcz13_1
        try clear hcz13_2
        try clear hcz13_3
        try clear hcz15_0
        try clear hcz15_1
        try clear hcz15_2
        try clear hcz15_3
        try clear hcz9_0
        try clear hcz9_1
        try clear hcz9_2
        try clear hcz9_3
        try clear hfz11_0
        try clear hfz11_1
        try clear hfz11_2
        try clear hfz11_3
        try clear hfz12_0
        try clear hfz12_1
        try clear hfz12_2
        try clear hfz12_3
        try clear hfz13_0
        try clear hfz13_1
        try clear hfz13_2
        try clear hfz13_3
        try clear hfz15_0
        try clear hfz15_1
        try clear hfz15_2
        try clear hfz15_3
        try clear hfz9_0
        try clear hfz9_1
        try clear hfz9_2
        try clear hfz9_3
        try clear p2
        obtain ⟨x30_2, rfl, HA, HK2, BK227, HB⟩ := hrel
        cases gk with
        | zero => exact absurd HA.out (by simp [impl_IsShop.l0])
        | succ k2 =>
          have H := HA.out
          clear HA
          simp only [impl_IsShop.l0] at H
          by_cases c16 : x30_2 < (l0_2.length : Int)
          rotate_left
          · rw [if_neg c16] at H
            have c16b0 := decide_eq_false c16
            clear c16
            obtain rfl := Option.some.inj H
            go_wp2
            go_ret
            exact ⟨zz9, zz24⟩
          rw [if_pos c16] at H
          have c16b0 := decide_eq_true c16
          clear c16
          by_cases c17 : 0 ≤ x30_2
          rotate_left
          · rw [if_neg c17] at H
            exact absurd H (by simp)
          rw [if_pos c17] at H
          have c17b0 := decide_eq_true c17
          clear c17
          by_cases c18 : x30_2 < (l0_2.length : Int)
          rotate_left
          · rw [if_neg c18] at H
            exact absurd H (by simp)
          rw [if_pos c18] at H
          have c18b0 := decide_eq_true c18
          clear c18
          replace H := Option.bind_eq_some_iff.mp H
          obtain ⟨t233, A190, H⟩ := H
          (try dsimp only at H)
          have A19 := Aside0.mk A190
          clear A190
          by_cases c20 : t233 = true
          rotate_left
          · replace c20 := Bool.eq_false_iff.mpr c20
            subst c20
            rw [if_neg (show ¬ (false = true) by decide)] at H
            obtain rfl := Option.some.inj H
            have p231 : 0 ≤ (x30_2 : Int) := of_decide_eq_true zz5
            have q231 : x30_2 < (l0_2.length : Int) := of_decide_eq_true zz5
            obtain ⟨ad231, e231, hx231_0, hx231_1, hx231_2, hx231_3, hx231_4⟩ := at_T62 HR0_2.out x30_2 p231 q231
            cases e231
            replace hx231_0 := (HB.out.cell (World.block_lt_of_cell? w _ hx231_0)).trans hx231_0
            replace hx231_1 := (HB.out.cell (World.block_lt_of_cell? w _ hx231_1)).trans hx231_1
            replace hx231_2 := (HB.out.cell (World.block_lt_of_cell? w _ hx231_2)).trans hx231_2
            replace hx231_3 := (HB.out.cell (World.block_lt_of_cell? w _ hx231_3)).trans hx231_3
            replace hx231_4 := (HB.out.cell (World.block_lt_of_cell? w _ hx231_4)).trans hx231_4
            replace p231 := eq_true p231
            replace q231 := eq_true q231
            go_wp2_with (first | ((with_reducible refine gate_dst (N := 4) rfl ?_); (try (refine gate_guard (by rfl) ?_; dsimp only)); refine qbox (N := 4) (cs := #[.int .i64 0, .int .i64 0, .int .i64 0, .int .i64 0, .int .i64 0]) (t := 62) ?_; intro gb232 hg w46 hbox hb; refine qs7 (blk_below (qb BK227.out) hb) (below_step zz24 hb) (hbox) ((zz90 : w.heap.size ≤ gb232)) ((zz90 : w.heap.size ≤ gb232)) ((by rw [hg]; exact Nat.ne_of_lt (blk_lt (qb BK227.out)) : gb227 ≠ gb232)) ((by rw [hg]; exact Nat.ne_of_gt (blk_lt (qb BK227.out)) : gb232 ≠ gb227)) ?_; clear BK227 HB; intro BK227 HB BK232 GW232 GE232 NB227_232 NB232_227; clear hb hbox hg; have hnb47 := NB232_227.out; have hnc47 := NB227_232.out; obtain ⟨hcz48_0, hcz48_1, hcz48_2, hcz48_3, hcz48_4, hfz48_0, hfz48_1, hfz48_2, hfz48_3, hfz48_4⟩ := qc5 BK232.out; obtain ⟨hcz49_0, hcz49_1, hcz49_2, hcz49_3, hfz49_0, hfz49_1, hfz49_2, hfz49_3⟩ := qc4 BK227.out) | ((with_reducible refine gate_callee (f := 55) rfl ?_); refine qcall 37 Tryd.func55 rfl #[.agg #[.int .i64 a0_0, .int .i64 a0_1, .slice (some ad231) l0_2.length c0_2, .int .i64 a0_3], .agg #[.int .i64 ((rd_T62 l0_2 x30_2).f0), .int .i64 ((rd_T62 l0_2 x30_2).f1), .int .i64 ((rd_T62 l0_2 x30_2).f2), .int .i64 ((rd_T62 l0_2 x30_2).f3), .int .i64 ((rd_T62 l0_2 x30_2).f4)]] ?_; (with_reducible refine (impl_Shop_isCarpet.calls k2 a0_0 a0_1 _ _ l0_2 a0_3 ((rd_T62 l0_2 x30_2).f0) ((rd_T62 l0_2 x30_2).f1) ((rd_T62 l0_2 x30_2).f2) ((rd_T62 l0_2 x30_2).f3) ((rd_T62 l0_2 x30_2).f4) false _ ?side1 ?side2 A19.out).mono ?_); (case side1 => exact Kd.C_below HR0_2.out zz56); (case side2 => exact zz0); rintro e w50 ⟨rfl, hb⟩; refine ⟨_, rfl, ?_⟩; refine qs3 (blk_below (g := gb227) (o := .cells #[.int .i64 a0_0, .int .i64 a0_1, .slice (some ad231) l0_2.length c0_2, .int .i64 a0_3] 26 (0, 0)) zz84 hb) (blk_below (g := gb232) (o := .cells #[.int .i64 ((rd_T62 l0_2 x30_2).f0), .int .i64 ((rd_T62 l0_2 x30_2).f1), .int .i64 ((rd_T62 l0_2 x30_2).f2), .int .i64 ((rd_T62 l0_2 x30_2).f3), .int .i64 ((rd_T62 l0_2 x30_2).f4)] 62 (0, 0)) zz85 hb) (below_step zz56 hb) ?_; clear BK227 BK232 HB; intro BK227 BK232 HB; (try clear hb); (try clear hb2); (try clear hk); (try clear hi)))
            go_ret
            exact ⟨zz9, zz56⟩
          subst c20
          rw [if_pos rfl] at H
          by_cases c21 : ((rd_T62 l0_2 x30_2).f2) = 1
          rotate_left
          · rw [if_neg c21] at H
            have c21b0 := beq_eq_false_iff_ne.mpr c21
            have c21b1 := bne_iff_ne.mpr c21
            have H' := Aside0.mk H
            clear H
            have p231 : 0 ≤ (x30_2 : Int) := of_decide_eq_true zz5
            have q231 : x30_2 < (l0_2.length : Int) := of_decide_eq_true zz5
            obtain ⟨ad231, e231, hx231_0, hx231_1, hx231_2, hx231_3, hx231_4⟩ := at_T62 HR0_2.out x30_2 p231 q231
            cases e231
            replace hx231_0 := (HB.out.cell (World.block_lt_of_cell? w _ hx231_0)).trans hx231_0
            replace hx231_1 := (HB.out.cell (World.block_lt_of_cell? w _ hx231_1)).trans hx231_1
            replace hx231_2 := (HB.out.cell (World.block_lt_of_cell? w _ hx231_2)).trans hx231_2
            replace hx231_3 := (HB.out.cell (World.block_lt_of_cell? w _ hx231_3)).trans hx231_3
            replace hx231_4 := (HB.out.cell (World.block_lt_of_cell? w _ hx231_4)).trans hx231_4
            replace p231 := eq_true p231
            replace q231 := eq_true q231
            go_wp2_with (first | ((with_reducible refine gate_dst (N := 4) rfl ?_); (try (refine gate_guard (by rfl) ?_; dsimp only)); refine qbox (N := 4) (cs := #[.int .i64 0, .int .i64 0, .int .i64 0, .int .i64 0, .int .i64 0]) (t := 62) ?_; intro gb232 hg w40 hbox hb; refine qs7 (blk_below (qb BK227.out) hb) (below_step zz24 hb) (hbox) ((zz90 : w.heap.size ≤ gb232)) ((zz90 : w.heap.size ≤ gb232)) ((by rw [hg]; exact Nat.ne_of_lt (blk_lt (qb BK227.out)) : gb227 ≠ gb232)) ((by rw [hg]; exact Nat.ne_of_gt (blk_lt (qb BK227.out)) : gb232 ≠ gb227)) ?_; clear BK227 HB; intro BK227 HB BK232 GW232 GE232 NB227_232 NB232_227; clear hb hbox hg; have hnb41 := NB232_227.out; have hnc41 := NB227_232.out; obtain ⟨hcz42_0, hcz42_1, hcz42_2, hcz42_3, hcz42_4, hfz42_0, hfz42_1, hfz42_2, hfz42_3, hfz42_4⟩ := qc5 BK232.out; obtain ⟨hcz43_0, hcz43_1, hcz43_2, hcz43_3, hfz43_0, hfz43_1, hfz43_2, hfz43_3⟩ := qc4 BK227.out) | ((with_reducible refine gate_callee (f := 55) rfl ?_); refine qcall 37 Tryd.func55 rfl #[.agg #[.int .i64 a0_0, .int .i64 a0_1, .slice (some ad231) l0_2.length c0_2, .int .i64 a0_3], .agg #[.int .i64 ((rd_T62 l0_2 x30_2).f0), .int .i64 ((rd_T62 l0_2 x30_2).f1), .int .i64 ((rd_T62 l0_2 x30_2).f2), .int .i64 ((rd_T62 l0_2 x30_2).f3), .int .i64 ((rd_T62 l0_2 x30_2).f4)]] ?_; (with_reducible refine (impl_Shop_isCarpet.calls k2 a0_0 a0_1 _ _ l0_2 a0_3 ((rd_T62 l0_2 x30_2).f0) ((rd_T62 l0_2 x30_2).f1) ((rd_T62 l0_2 x30_2).f2) ((rd_T62 l0_2 x30_2).f3) ((rd_T62 l0_2 x30_2).f4) true _ ?side1 ?side2 A19.out).mono ?_); (case side1 => exact Kd.C_below HR0_2.out zz56); (case side2 => exact zz0); rintro e w44 ⟨rfl, hb⟩; refine ⟨_, rfl, ?_⟩; refine qs3 (blk_below (g := gb227) (o := .cells #[.int .i64 a0_0, .int .i64 a0_1, .slice (some ad231) l0_2.length c0_2, .int .i64 a0_3] 26 (0, 0)) zz84 hb) (blk_below (g := gb232) (o := .cells #[.int .i64 ((rd_T62 l0_2 x30_2).f0), .int .i64 ((rd_T62 l0_2 x30_2).f1), .int .i64 ((rd_T62 l0_2 x30_2).f2), .int .i64 ((rd_T62 l0_2 x30_2).f3), .int .i64 ((rd_T62 l0_2 x30_2).f4)] 62 (0, 0)) zz85 hb) (below_step zz56 hb) ?_; clear BK227 BK232 HB; intro BK227 BK232 HB; (try clear hb); (try clear hb2); (try clear hk); (try clear hi); obtain ⟨hcz45_0, hcz45_1, hcz45_2, hcz45_3, hcz45_4, hfz45_0, hfz45_1, hfz45_2, hfz45_3, hfz45_4⟩ := qc5 BK232.out))
            go_roundg k2
            case measure => have := HJ1.out; have := HK2.out; omega
            case rel => exact ⟨(wrap64 (x30_2 + 1)), zz4, H', ⟨by have := HJ1.out; have := HK2.out; omega⟩, ⟨zz13⟩, ⟨zz56⟩⟩
          rw [if_pos c21] at H
          have c21b0 := beq_iff_eq.mpr c21
          have c21b1 := bne_eq_false_iff_eq.mpr c21
          clear c21
          replace H := Option.bind_eq_some_iff.mp H
          obtain ⟨t234, A220, H⟩ := H
          (try dsimp only at H)
          have A22 := Aside0.mk A220
          clear A220
          by_cases c23 : t234 = x30_2
          rotate_left
          · rw [if_neg c23] at H
            have c23b0 := beq_eq_false_iff_ne.mpr c23
            have c23b1 := bne_iff_ne.mpr c23
            obtain rfl := Option.some.inj H
            have p231 : 0 ≤ (x30_2 : Int) := of_decide_eq_true zz5
            have q231 : x30_2 < (l0_2.length : Int) := of_decide_eq_true zz5
            obtain ⟨ad231, e231, hx231_0, hx231_1, hx231_2, hx231_3, hx231_4⟩ := at_T62 HR0_2.out x30_2 p231 q231
            cases e231
            replace hx231_0 := (HB.out.cell (World.block_lt_of_cell? w _ hx231_0)).trans hx231_0
            replace hx231_1 := (HB.out.cell (World.block_lt_of_cell? w _ hx231_1)).trans hx231_1
            replace hx231_2 := (HB.out.cell (World.block_lt_of_cell? w _ hx231_2)).trans hx231_2
            replace hx231_3 := (HB.out.cell (World.block_lt_of_cell? w _ hx231_3)).trans hx231_3
            replace hx231_4 := (HB.out.cell (World.block_lt_of_cell? w _ hx231_4)).trans hx231_4
            replace p231 := eq_true p231
            replace q231 := eq_true q231
            go_wp2_with (first | ((with_reducible refine gate_dst (N := 4) rfl ?_); (try (refine gate_guard (by rfl) ?_; dsimp only)); refine qbox (N := 4) (cs := #[.int .i64 0, .int .i64 0, .int .i64 0, .int .i64 0, .int .i64 0]) (t := 62) ?_; intro gb232 hg w32 hbox hb; refine qs7 (blk_below (qb BK227.out) hb) (below_step zz24 hb) (hbox) ((zz90 : w.heap.size ≤ gb232)) ((zz90 : w.heap.size ≤ gb232)) ((by rw [hg]; exact Nat.ne_of_lt (blk_lt (qb BK227.out)) : gb227 ≠ gb232)) ((by rw [hg]; exact Nat.ne_of_gt (blk_lt (qb BK227.out)) : gb232 ≠ gb227)) ?_; clear BK227 HB; intro BK227 HB BK232 GW232 GE232 NB227_232 NB232_227; clear hb hbox hg; have hnb33 := NB232_227.out; have hnc33 := NB227_232.out; obtain ⟨hcz34_0, hcz34_1, hcz34_2, hcz34_3, hcz34_4, hfz34_0, hfz34_1, hfz34_2, hfz34_3, hfz34_4⟩ := qc5 BK232.out; obtain ⟨hcz35_0, hcz35_1, hcz35_2, hcz35_3, hfz35_0, hfz35_1, hfz35_2, hfz35_3⟩ := qc4 BK227.out) | ((with_reducible refine gate_callee (f := 55) rfl ?_); refine qcall 37 Tryd.func55 rfl #[.agg #[.int .i64 a0_0, .int .i64 a0_1, .slice (some ad231) l0_2.length c0_2, .int .i64 a0_3], .agg #[.int .i64 ((rd_T62 l0_2 x30_2).f0), .int .i64 ((rd_T62 l0_2 x30_2).f1), .int .i64 ((rd_T62 l0_2 x30_2).f2), .int .i64 ((rd_T62 l0_2 x30_2).f3), .int .i64 ((rd_T62 l0_2 x30_2).f4)]] ?_; (with_reducible refine (impl_Shop_isCarpet.calls k2 a0_0 a0_1 _ _ l0_2 a0_3 ((rd_T62 l0_2 x30_2).f0) ((rd_T62 l0_2 x30_2).f1) ((rd_T62 l0_2 x30_2).f2) ((rd_T62 l0_2 x30_2).f3) ((rd_T62 l0_2 x30_2).f4) true _ ?side1 ?side2 A19.out).mono ?_); (case side1 => exact Kd.C_below HR0_2.out zz56); (case side2 => exact zz0); rintro e w36 ⟨rfl, hb⟩; refine ⟨_, rfl, ?_⟩; refine qs3 (blk_below (g := gb227) (o := .cells #[.int .i64 a0_0, .int .i64 a0_1, .slice (some ad231) l0_2.length c0_2, .int .i64 a0_3] 26 (0, 0)) zz84 hb) (blk_below (g := gb232) (o := .cells #[.int .i64 ((rd_T62 l0_2 x30_2).f0), .int .i64 ((rd_T62 l0_2 x30_2).f1), .int .i64 ((rd_T62 l0_2 x30_2).f2), .int .i64 ((rd_T62 l0_2 x30_2).f3), .int .i64 ((rd_T62 l0_2 x30_2).f4)] 62 (0, 0)) zz85 hb) (below_step zz56 hb) ?_; clear BK227 BK232 HB; intro BK227 BK232 HB; (try clear hb); (try clear hb2); (try clear hk); (try clear hi); obtain ⟨hcz37_0, hcz37_1, hcz37_2, hcz37_3, hcz37_4, hfz37_0, hfz37_1, hfz37_2, hfz37_3, hfz37_4⟩ := qc5 BK232.out; obtain ⟨hcz38_0, hcz38_1, hcz38_2, hcz38_3, hfz38_0, hfz38_1, hfz38_2, hfz38_3⟩ := qc4 BK227.out) | (go_at_call 33; (with_reducible refine (impl_Shop_onLoom.calls a0_0 a0_1 _ _ l0_2 a0_3 ((rd_T62 l0_2 x30_2).f3) t234 _ ?side1 ?side2 A22.out).mono ?_); (case side1 => exact zz54); (case side2 => exact zz0); rintro e w39 ⟨rfl, hb⟩; refine qs3 (blk_below (qb BK227.out) hb) (blk_below (qb BK232.out) hb) (below_step zz56 hb) ?_; clear BK227 BK232 HB; intro BK227 BK232 HB; (try clear hb); (try clear hb2); (try clear hk); (try clear hi)))
            go_ret
            exact ⟨zz9, zz56⟩
          rw [if_pos c23] at H
          have c23b0 := beq_iff_eq.mpr c23
          have c23b1 := bne_eq_false_iff_eq.mpr c23
          clear c23
          have H' := Aside0.mk H
          clear H
          have p231 : 0 ≤ (x30_2 : Int) := of_decide_eq_true zz5
          have q231 : x30_2 < (l0_2.length : Int) := of_decide_eq_true zz5
          obtain ⟨ad231, e231, hx231_0, hx231_1, hx231_2, hx231_3, hx231_4⟩ := at_T62 HR0_2.out x30_2 p231 q231
          cases e231
          replace hx231_0 := (HB.out.cell (World.block_lt_of_cell? w _ hx231_0)).trans hx231_0
          replace hx231_1 := (HB.out.cell (World.block_lt_of_cell? w _ hx231_1)).trans hx231_1
          replace hx231_2 := (HB.out.cell (World.block_lt_of_cell? w _ hx231_2)).trans hx231_2
          replace hx231_3 := (HB.out.cell (World.block_lt_of_cell? w _ hx231_3)).trans hx231_3
          replace hx231_4 := (HB.out.cell (World.block_lt_of_cell? w _ hx231_4)).trans hx231_4
          replace p231 := eq_true p231
          replace q231 := eq_true q231
          go_wp2_with (first | ((with_reducible refine gate_dst (N := 4) rfl ?_); (try (refine gate_guard (by rfl) ?_; dsimp only)); refine qbox (N := 4) (cs := #[.int .i64 0, .int .i64 0, .int .i64 0, .int .i64 0, .int .i64 0]) (t := 62) ?_; intro gb232 hg w24 hbox hb; refine qs7 (blk_below (qb BK227.out) hb) (below_step zz24 hb) (hbox) ((zz90 : w.heap.size ≤ gb232)) ((zz90 : w.heap.size ≤ gb232)) ((by rw [hg]; exact Nat.ne_of_lt (blk_lt (qb BK227.out)) : gb227 ≠ gb232)) ((by rw [hg]; exact Nat.ne_of_gt (blk_lt (qb BK227.out)) : gb232 ≠ gb227)) ?_; clear BK227 HB; intro BK227 HB BK232 GW232 GE232 NB227_232 NB232_227; clear hb hbox hg; have hnb25 := NB232_227.out; have hnc25 := NB227_232.out; obtain ⟨hcz26_0, hcz26_1, hcz26_2, hcz26_3, hcz26_4, hfz26_0, hfz26_1, hfz26_2, hfz26_3, hfz26_4⟩ := qc5 BK232.out; obtain ⟨hcz27_0, hcz27_1, hcz27_2, hcz27_3, hfz27_0, hfz27_1, hfz27_2, hfz27_3⟩ := qc4 BK227.out) | ((with_reducible refine gate_callee (f := 55) rfl ?_); refine qcall 37 Tryd.func55 rfl #[.agg #[.int .i64 a0_0, .int .i64 a0_1, .slice (some ad231) l0_2.length c0_2, .int .i64 a0_3], .agg #[.int .i64 ((rd_T62 l0_2 x30_2).f0), .int .i64 ((rd_T62 l0_2 x30_2).f1), .int .i64 ((rd_T62 l0_2 x30_2).f2), .int .i64 ((rd_T62 l0_2 x30_2).f3), .int .i64 ((rd_T62 l0_2 x30_2).f4)]] ?_; (with_reducible refine (impl_Shop_isCarpet.calls k2 a0_0 a0_1 _ _ l0_2 a0_3 ((rd_T62 l0_2 x30_2).f0) ((rd_T62 l0_2 x30_2).f1) ((rd_T62 l0_2 x30_2).f2) ((rd_T62 l0_2 x30_2).f3) ((rd_T62 l0_2 x30_2).f4) true _ ?side1 ?side2 A19.out).mono ?_); (case side1 => exact Kd.C_below HR0_2.out zz56); (case side2 => exact zz0); rintro e w28 ⟨rfl, hb⟩; refine ⟨_, rfl, ?_⟩; refine qs3 (blk_below (g := gb227) (o := .cells #[.int .i64 a0_0, .int .i64 a0_1, .slice (some ad231) l0_2.length c0_2, .int .i64 a0_3] 26 (0, 0)) zz84 hb) (blk_below (g := gb232) (o := .cells #[.int .i64 ((rd_T62 l0_2 x30_2).f0), .int .i64 ((rd_T62 l0_2 x30_2).f1), .int .i64 ((rd_T62 l0_2 x30_2).f2), .int .i64 ((rd_T62 l0_2 x30_2).f3), .int .i64 ((rd_T62 l0_2 x30_2).f4)] 62 (0, 0)) zz85 hb) (below_step zz56 hb) ?_; clear BK227 BK232 HB; intro BK227 BK232 HB; (try clear hb); (try clear hb2); (try clear hk); (try clear hi); obtain ⟨hcz29_0, hcz29_1, hcz29_2, hcz29_3, hcz29_4, hfz29_0, hfz29_1, hfz29_2, hfz29_3, hfz29_4⟩ := qc5 BK232.out; obtain ⟨hcz30_0, hcz30_1, hcz30_2, hcz30_3, hfz30_0, hfz30_1, hfz30_2, hfz30_3⟩ := qc4 BK227.out) | (go_at_call 33; (with_reducible refine (impl_Shop_onLoom.calls a0_0 a0_1 _ _ l0_2 a0_3 ((rd_T62 l0_2 x30_2).f3) t234 _ ?side1 ?side2 A22.out).mono ?_); (case side1 => exact zz54); (case side2 => exact zz0); rintro e w31 ⟨rfl, hb⟩; refine qs3 (blk_below (qb BK227.out) hb) (blk_below (qb BK232.out) hb) (below_step zz56 hb) ?_; clear BK227 BK232 HB; intro BK227 BK232 HB; (try clear hb); (try clear hb2); (try clear hk); (try clear hi)))
          go_roundg k2
          case measure => have := HJ1.out; have := HK2.out; omega
          case rel => exact ⟨(wrap64 (x30_2 + 1)), zz4, H', ⟨by have := HJ1.out; have := HK2.out; omega⟩, ⟨zz13⟩, ⟨zz56⟩⟩


/-! ### strings_Cut: function 99 (by hand) -/
def strings_Cut.f (a0 a1 : ByteArray) : Option (ByteArray × ByteArray × Bool) := if a0.size < 4294967281 then some (⟨(Lib.cut a0.data.toList a1.data.toList).1.toArray⟩, ⟨(Lib.cut a0.data.toList a1.data.toList).2.1.toArray⟩, (Lib.cut a0.data.toList a1.data.toList).2.2) else none
theorem strings_Cut.calls (a0 a1 : ByteArray) (r1 : ByteArray) (r2 : ByteArray) (r3 : Bool) (w : World) (hG : Gl w) (h : strings_Cut.f a0 a1 = some (r1, r2, r3)) :
    Calls Tryd.prog 99 #[.string a0, .string a1] w fun e w' => e = .returned (.tuple #[.string r1, .string r2, .bool r3]) ∧ Below w.heap.size w w' := by
  unfold strings_Cut.f at h
  split at h
  · rename_i hb
    have h := Option.some.inj h
    simp only [Prod.mk.injEq] at h
    obtain ⟨rfl, rfl, rfl⟩ := h
    obtain ⟨m, hm⟩ := hG.1
    refine (Tryd.strings_Cut a0 a1 m w hb hm).mono ?_
    rintro e w' ⟨he, k, rfl⟩
    exact ⟨he, pw_below_drewN (Below.refl _ _) k⟩
  · cases h


/-! ### strconv_Itoa: function 69 (by hand) -/
def strconv_Itoa.f (a0 : Int) : Option ByteArray := if -9223372036854775808 ≤ a0 ∧ a0 ≤ 9223372036854775807 then some ⟨(Lib.itoa a0).toArray⟩ else none
theorem strconv_Itoa.calls (a0 : Int) (r : ByteArray) (w : World) (hG : Gl w) (h : strconv_Itoa.f a0 = some r) :
    Calls Tryd.prog 69 #[.int .i64 a0] w fun e w' => e = .returned (.string r) ∧ Below w.heap.size w w' := by
  unfold strconv_Itoa.f at h
  split at h
  · rename_i hb
    obtain rfl := Option.some.inj h
    refine (Tryd.strconv_Itoa a0 hb.1 hb.2 w hG.2).mono ?_
    rintro e w' ⟨he, k, os, rfl⟩
    exact ⟨he, Lib.below_grow _ _ (Nat.le_refl _) _ _⟩
  · cases h


/-! ### impl_decimal: function 41 -/
def impl_decimal.f (a0 : Int) : Option (ByteArray) := (strconv_Itoa.f a0).bind fun t235 => (some t235)
set_option maxHeartbeats 8000000 in
set_option maxRecDepth 100000 in
theorem impl_decimal.calls (a0 : Int) (r : ByteArray) (w : World) (hG : Gl w) (h : impl_decimal.f a0 = some r) :
    Calls Tryd.prog 41 #[.int .i64 a0] w fun e w' => e = .returned (.string r) ∧ Below w.heap.size w w' := by
  have HG := Aside0.mk hG
  clear hG
  have HB := Aside0.mk (Below.refl w.heap.size w)
  have H : ((strconv_Itoa.f a0).bind fun t235 => (some t235)) = some r := h
  clear h
  replace H := Option.bind_eq_some_iff.mp H
  obtain ⟨t235, A20, H⟩ := H
  replace H : (some t235) = some r := H
  have A2 := Aside0.mk A20
  clear A20
  obtain rfl := Option.some.inj H
  go_enter Tryd.func41, Tryd.ntmps41
  go_wp2_with (first | ((with_reducible refine gate_callee (f := 69) rfl ?_); refine qcall 4 Tryd.func69 rfl #[.int .i64 a0] ?_; (with_reducible refine (strconv_Itoa.calls a0 t235 _ ?side1 A2.out).mono ?_); (case side1 => exact zz86); rintro e w3 ⟨rfl, hb⟩; refine ⟨_, rfl, ?_⟩; refine qs1 (below_step zz20 hb) ?_; clear HB; intro HB; (try clear hb); (try clear hb2); (try clear hk); (try clear hi)))
  go_ret
  exact ⟨zz9, zz20⟩


/-! ### impl_Checksum: function 119 -/
def impl_Checksum.l0 : Nat → ByteArray → Int → Int → Int → Option (Int × Bool)
  | 0, _, _, _, _ => none
  | k + 1, x0, x4, x10, x11 => if x11 < x10 then (if 0 ≤ x11 then (if x11 < (x0.size : Int) then (impl_Checksum.l0 k x0 (Int.tmod (wrap64 ((wrap64 ((wrap64 (41 * x4)) + (wrap64 (bt x0 x11)))) + 1)) 999979) x10 (wrap64 (x11 + 1))) else (none)) else (none)) else (some (x4, true))
def impl_Checksum.f (k : Nat) (a0 : ByteArray) : Option (Int × Bool) := if (a0.size : Int) > 4000 then (some (0, false)) else (impl_Checksum.l0 k a0 7 (a0.size : Int) 0)
set_option maxHeartbeats 8000000 in
set_option maxRecDepth 100000 in
theorem impl_Checksum.calls (k : Nat) (a0 : ByteArray) (r1 : Int) (r2 : Bool) (w : World) (h : impl_Checksum.f k a0 = some (r1, r2)) :
    Calls Tryd.prog 119 #[.string a0] w fun e w' => e = .returned (.tuple #[.int .i64 r1, .bool r2]) ∧ Drawn0 w w' := by
  unfold impl_Checksum.f at h
  have H := h
  clear h
  by_cases c2 : (a0.size : Int) > 4000
  · rw [if_pos c2] at H
    have c2b0 := decide_eq_true c2
    have c2b1 : decide (4000 < a0.size) = true := decide_eq_true (by omega)
    clear c2
    simp only [Option.some.injEq, Prod.mk.injEq] at H
    obtain ⟨rfl, rfl⟩ := H
    go_enter Tryd.func119, Tryd.ntmps119
    go_wp2
    go_ret2
    exact ⟨zz4, zz8⟩
  rw [if_neg c2] at H
  have c2b0 := decide_eq_false c2
  have c2b1 : decide (4000 < a0.size) = false := decide_eq_false (by omega)
  clear c2
  have H' := Aside0.mk H
  clear H
  go_enter Tryd.func119, Tryd.ntmps119
  go_wp2
  go_loopg [4, 11] k (fun kq v4 v11 w' => ∃ (x4_1 : Int) (x11_1 : Int), v4 = .int .i64 x4_1 ∧ v11 = .int .i64 x11_1 ∧ Aside0 (impl_Checksum.l0 kq a0 x4_1 (a0.size : Int) x11_1 = some (r1, r2)) ∧ Aside0 (kq ≤ k) ∧ Drawn0 w w')
  case atStart => exact ⟨(7), (0), zz4, zz4, H', ⟨Nat.le_refl _⟩, zz8⟩
  case round =>
    clear H'
    try clear c1
    try clear c2
    try clear c2b0
    try clear c2b1
    try clear p2
    obtain ⟨x4_1, x11_1, rfl, rfl, HA, HK1, ⟨m1, rfl⟩⟩ := hrel
    cases gk with
    | zero => exact absurd HA.out (by simp [impl_Checksum.l0])
    | succ k1 =>
      have H := HA.out
      clear HA
      simp only [impl_Checksum.l0] at H
      by_cases c3 : x11_1 < (a0.size : Int)
      rotate_left
      · rw [if_neg c3] at H
        have c3b0 := decide_eq_false c3
        clear c3
        simp only [Option.some.injEq, Prod.mk.injEq] at H
        obtain ⟨rfl, rfl⟩ := H
        go_wp2
        go_ret2
        exact ⟨zz4, zz8⟩
      rw [if_pos c3] at H
      have c3b0 := decide_eq_true c3
      clear c3
      by_cases c4 : 0 ≤ x11_1
      rotate_left
      · rw [if_neg c4] at H
        exact absurd H (by simp)
      rw [if_pos c4] at H
      have c4b0 := decide_eq_true c4
      clear c4
      by_cases c5 : x11_1 < (a0.size : Int)
      rotate_left
      · rw [if_neg c5] at H
        exact absurd H (by simp)
      rw [if_pos c5] at H
      have c5b0 := decide_eq_true c5
      clear c5
      have H' := Aside0.mk H
      clear H
      have p6 : 0 ≤ (x11_1 : Int) := of_decide_eq_true zz5
      have q6 : x11_1 < (a0.size : Int) := of_decide_eq_true zz5
      have hx6 := bt_at a0 x11_1
      replace p6 := eq_true p6
      replace q6 := eq_true q6
      go_wp2
      go_roundg k1
      case measure => have := HK1.out; omega
      case rel => exact ⟨(Int.tmod (wrap64 ((wrap64 ((wrap64 (41 * x4_1)) + (wrap64 (bt a0 x11_1)))) + 1)) 999979), (wrap64 (x11_1 + 1)), zz4, zz4, H', ⟨zz1⟩, zz8⟩


/-! ### strings_Contains: function 120 (by hand) -/
def strings_Contains.f (a0 a1 : ByteArray) : Option Bool := if a0.size < 4294967281 then some (Lib.contains a0.data.toList a1.data.toList) else none
theorem strings_Contains.calls (a0 a1 : ByteArray) (r : Bool) (w : World) (hG : Gl w) (h : strings_Contains.f a0 a1 = some r) :
    Calls Tryd.prog 120 #[.string a0, .string a1] w fun e w' => e = .returned (.bool r) ∧ Below w.heap.size w w' := by
  unfold strings_Contains.f at h
  split at h
  · rename_i hb
    obtain rfl := Option.some.inj h
    obtain ⟨m, hm⟩ := hG.1
    refine (Tryd.strings_Contains a0 a1 m w hb hm).mono ?_
    rintro e w' ⟨he, rfl⟩
    exact ⟨he, Below.refl _ _⟩
  · cases h


section
attribute [local go_sem high] run_add_cat run_slice_cat run_slice_cat_h run_slice_cat_l run_slice_cat_all
/-! ### impl_AppendChecksum: function 112 -/
def impl_AppendChecksum.f (k : Nat) (a0 : ByteArray) : Option (ByteArray × Bool) := (impl_Checksum.f k a0).bind fun bt236 => (if a0.size + 1 ≤ 9223372036854775807 then ((impl_decimal.f bt236.1).bind fun t238 => (if (cat a0 (⟨#[35]⟩ : ByteArray)).size + t238.size ≤ 9223372036854775807 then (if bt236.2 = true then ((strings_Contains.f a0 (⟨#[35]⟩ : ByteArray)).bind fun t239 => (if t239 = true then (some ((⟨#[]⟩ : ByteArray), false)) else (if ((cat (cat a0 (⟨#[35]⟩ : ByteArray)) t238).size : Int) > 4000 then (some ((⟨#[]⟩ : ByteArray), false)) else (some (cat (cat a0 (⟨#[35]⟩ : ByteArray)) t238, true))))) else (some ((⟨#[]⟩ : ByteArray), false))) else (none))) else (none))
set_option maxHeartbeats 8000000 in
set_option maxRecDepth 100000 in
theorem impl_AppendChecksum.calls (k : Nat) (a0 : ByteArray) (r1 : ByteArray) (r2 : Bool) (w : World) (hG : Gl w) (h : impl_AppendChecksum.f k a0 = some (r1, r2)) :
    Calls Tryd.prog 112 #[.string a0] w fun e w' => e = .returned (.tuple #[.string r1, .bool r2]) ∧ Below w.heap.size w w' := by
  have HG := Aside0.mk hG
  clear hG
  have HB := Aside0.mk (Below.refl w.heap.size w)
  unfold impl_AppendChecksum.f at h
  have H := h
  clear h
  replace H := Option.bind_eq_some_iff.mp H
  obtain ⟨⟨t236, t237⟩, A20, H⟩ := H
  (try dsimp only at H)
  have A2 := Aside0.mk A20
  clear A20
  by_cases c3 : a0.size + 1 ≤ 9223372036854775807
  rotate_left
  · rw [if_neg c3] at H
    exact absurd H (by simp)
  rw [if_pos c3] at H
  have c3b0 := eq_true c3
  have c3b1 := decide_eq_true c3
  try have c3b2 := eq_false (Nat.not_lt.2 c3)
  clear c3
  replace H := Option.bind_eq_some_iff.mp H
  obtain ⟨t238, A40, H⟩ := H
  (try dsimp only at H)
  have A4 := Aside0.mk A40
  clear A40
  by_cases c5 : (cat a0 (⟨#[35]⟩ : ByteArray)).size + t238.size ≤ 9223372036854775807
  rotate_left
  · rw [if_neg c5] at H
    exact absurd H (by simp)
  rw [if_pos c5] at H
  have c5b0 := eq_true c5
  have c5b1 := decide_eq_true c5
  try have c5b2 := eq_false (Nat.not_lt.2 c5)
  clear c5
  by_cases c6 : t237 = true
  rotate_left
  · replace c6 := Bool.eq_false_iff.mpr c6
    subst c6
    rw [if_neg (show ¬ (false = true) by decide)] at H
    simp only [Option.some.injEq, Prod.mk.injEq] at H
    obtain ⟨rfl, rfl⟩ := H
    go_enter Tryd.func112, Tryd.ntmps112
    go_wp2_with (first | ((with_reducible refine gate_callee (f := 119) rfl ?_); refine qcall 9 Tryd.func119 rfl #[.string a0] ?_; (with_reducible refine (impl_Checksum.calls k a0 t236 false _ A2.out).mono ?_); rintro e w' ⟨rfl, ⟨nd, rfl⟩⟩; refine ⟨_, rfl, ?_⟩) | ((with_reducible refine gate_callee (f := 41) rfl ?_); refine qcall 15 Tryd.func41 rfl #[.int .i64 t236] ?_; (with_reducible refine (impl_decimal.calls t236 t238 _ ?side1 A4.out).mono ?_); (case side1 => exact zz86); rintro e w16 ⟨rfl, hb⟩; refine ⟨_, rfl, ?_⟩; refine qs1 (below_step zz20 hb) ?_; clear HB; intro HB; (try clear hb); (try clear hb2); (try clear hk); (try clear hi)))
    go_ret2
    exact ⟨zz9, zz20⟩
  subst c6
  rw [if_pos rfl] at H
  replace H := Option.bind_eq_some_iff.mp H
  obtain ⟨t239, A70, H⟩ := H
  (try dsimp only at H)
  have A7 := Aside0.mk A70
  clear A70
  by_cases c8 : t239 = true
  · subst c8
    rw [if_pos rfl] at H
    simp only [Option.some.injEq, Prod.mk.injEq] at H
    obtain ⟨rfl, rfl⟩ := H
    go_enter Tryd.func112, Tryd.ntmps112
    go_wp2_with (first | ((with_reducible refine gate_callee (f := 119) rfl ?_); refine qcall 9 Tryd.func119 rfl #[.string a0] ?_; (with_reducible refine (impl_Checksum.calls k a0 t236 true _ A2.out).mono ?_); rintro e w' ⟨rfl, ⟨nd, rfl⟩⟩; refine ⟨_, rfl, ?_⟩) | ((with_reducible refine gate_callee (f := 41) rfl ?_); refine qcall 15 Tryd.func41 rfl #[.int .i64 t236] ?_; (with_reducible refine (impl_decimal.calls t236 t238 _ ?side1 A4.out).mono ?_); (case side1 => exact zz86); rintro e w9 ⟨rfl, hb⟩; refine ⟨_, rfl, ?_⟩; refine qs1 (below_step zz20 hb) ?_; clear HB; intro HB; (try clear hb); (try clear hb2); (try clear hk); (try clear hi)) | (go_at_call 120; (with_reducible refine (strings_Contains.calls a0 (⟨#[35]⟩ : ByteArray) true _ ?side1 A7.out).mono ?_); (case side1 => exact zz86); rintro e w10 ⟨rfl, hb⟩; refine qs1 (below_step zz20 hb) ?_; clear HB; intro HB; (try clear hb); (try clear hb2); (try clear hk); (try clear hi)))
    go_ret2
    exact ⟨zz9, zz20⟩
  replace c8 := Bool.eq_false_iff.mpr c8
  subst c8
  rw [if_neg (show ¬ (false = true) by decide)] at H
  by_cases c11 : ((cat (cat a0 (⟨#[35]⟩ : ByteArray)) t238).size : Int) > 4000
  · rw [if_pos c11] at H
    have c11b0 := decide_eq_true c11
    have c11b1 : decide (4000 < (cat (cat a0 (⟨#[35]⟩ : ByteArray)) t238).size) = true := decide_eq_true (by omega)
    clear c11
    simp only [Option.some.injEq, Prod.mk.injEq] at H
    obtain ⟨rfl, rfl⟩ := H
    go_enter Tryd.func112, Tryd.ntmps112
    go_wp2_with (first | ((with_reducible refine gate_callee (f := 119) rfl ?_); refine qcall 9 Tryd.func119 rfl #[.string a0] ?_; (with_reducible refine (impl_Checksum.calls k a0 t236 true _ A2.out).mono ?_); rintro e w' ⟨rfl, ⟨nd, rfl⟩⟩; refine ⟨_, rfl, ?_⟩) | ((with_reducible refine gate_callee (f := 41) rfl ?_); refine qcall 15 Tryd.func41 rfl #[.int .i64 t236] ?_; (with_reducible refine (impl_decimal.calls t236 t238 _ ?side1 A4.out).mono ?_); (case side1 => exact zz86); rintro e w12 ⟨rfl, hb⟩; refine ⟨_, rfl, ?_⟩; refine qs1 (below_step zz20 hb) ?_; clear HB; intro HB; (try clear hb); (try clear hb2); (try clear hk); (try clear hi)) | (go_at_call 120; (with_reducible refine (strings_Contains.calls a0 (⟨#[35]⟩ : ByteArray) false _ ?side1 A7.out).mono ?_); (case side1 => exact zz86); rintro e w13 ⟨rfl, hb⟩; refine qs1 (below_step zz20 hb) ?_; clear HB; intro HB; (try clear hb); (try clear hb2); (try clear hk); (try clear hi)))
    go_ret2
    exact ⟨zz9, zz20⟩
  rw [if_neg c11] at H
  have c11b0 := decide_eq_false c11
  have c11b1 : decide (4000 < (cat (cat a0 (⟨#[35]⟩ : ByteArray)) t238).size) = false := decide_eq_false (by omega)
  clear c11
  simp only [Option.some.injEq, Prod.mk.injEq] at H
  obtain ⟨rfl, rfl⟩ := H
  go_enter Tryd.func112, Tryd.ntmps112
  go_wp2_with (first | ((with_reducible refine gate_callee (f := 119) rfl ?_); refine qcall 9 Tryd.func119 rfl #[.string a0] ?_; (with_reducible refine (impl_Checksum.calls k a0 t236 true _ A2.out).mono ?_); rintro e w' ⟨rfl, ⟨nd, rfl⟩⟩; refine ⟨_, rfl, ?_⟩) | ((with_reducible refine gate_callee (f := 41) rfl ?_); refine qcall 15 Tryd.func41 rfl #[.int .i64 t236] ?_; (with_reducible refine (impl_decimal.calls t236 t238 _ ?side1 A4.out).mono ?_); (case side1 => exact zz86); rintro e w14 ⟨rfl, hb⟩; refine ⟨_, rfl, ?_⟩; refine qs1 (below_step zz20 hb) ?_; clear HB; intro HB; (try clear hb); (try clear hb2); (try clear hk); (try clear hi)) | (go_at_call 120; (with_reducible refine (strings_Contains.calls a0 (⟨#[35]⟩ : ByteArray) false _ ?side1 A7.out).mono ?_); (case side1 => exact zz86); rintro e w15 ⟨rfl, hb⟩; refine qs1 (below_step zz20 hb) ?_; clear HB; intro HB; (try clear hb); (try clear hb2); (try clear hk); (try clear hi)))
  go_ret2
  exact ⟨zz9, zz20⟩

end

/-! ### impl_VerifyChecksum: function 100 -/
def impl_VerifyChecksum.f (k : Nat) (a0 : ByteArray) : Option (ByteArray × Bool) := (strings_Cut.f a0 (⟨#[35]⟩ : ByteArray)).bind fun bt240 => ((impl_AppendChecksum.f k bt240.1).bind fun bt243 => (if bt243.2 = true then (if bt243.1.toList = a0.toList then (some (bt240.1, true)) else (some ((⟨#[]⟩ : ByteArray), false))) else (some ((⟨#[]⟩ : ByteArray), false))))
set_option maxHeartbeats 8000000 in
set_option maxRecDepth 100000 in
theorem impl_VerifyChecksum.calls (k : Nat) (a0 : ByteArray) (r1 : ByteArray) (r2 : Bool) (w : World) (hG : Gl w) (h : impl_VerifyChecksum.f k a0 = some (r1, r2)) :
    Calls Tryd.prog 100 #[.string a0] w fun e w' => e = .returned (.tuple #[.string r1, .bool r2]) ∧ Below w.heap.size w w' := by
  have HG := Aside0.mk hG
  clear hG
  have HB := Aside0.mk (Below.refl w.heap.size w)
  unfold impl_VerifyChecksum.f at h
  have H := h
  clear h
  replace H := Option.bind_eq_some_iff.mp H
  obtain ⟨⟨t240, t241, t242⟩, A20, H⟩ := H
  (try dsimp only at H)
  have A2 := Aside0.mk A20
  clear A20
  replace H := Option.bind_eq_some_iff.mp H
  obtain ⟨⟨t243, t244⟩, A30, H⟩ := H
  (try dsimp only at H)
  have A3 := Aside0.mk A30
  clear A30
  by_cases c4 : t244 = true
  rotate_left
  · replace c4 := Bool.eq_false_iff.mpr c4
    subst c4
    rw [if_neg (show ¬ (false = true) by decide)] at H
    simp only [Option.some.injEq, Prod.mk.injEq] at H
    obtain ⟨rfl, rfl⟩ := H
    go_enter Tryd.func100, Tryd.ntmps100
    go_wp2_with (first | ((with_reducible refine gate_callee (f := 99) rfl ?_); refine qcall 11 Tryd.func99 rfl #[.string a0, .string (⟨#[35]⟩ : ByteArray)] ?_; (with_reducible refine (strings_Cut.calls a0 (⟨#[35]⟩ : ByteArray) t240 t241 t242 _ ?side1 A2.out).mono ?_); (case side1 => exact zz86); rintro e w10 ⟨rfl, hb⟩; refine ⟨_, rfl, ?_⟩; refine qs1 (below_step zz20 hb) ?_; clear HB; intro HB; (try clear hb); (try clear hb2); (try clear hk); (try clear hi)) | ((with_reducible refine gate_callee (f := 112) rfl ?_); refine qcall 17 Tryd.func112 rfl #[.string t240] ?_; (with_reducible refine (impl_AppendChecksum.calls k t240 t243 false _ ?side1 A3.out).mono ?_); (case side1 => exact zz86); rintro e w11 ⟨rfl, hb⟩; refine ⟨_, rfl, ?_⟩; refine qs1 (below_step zz20 hb) ?_; clear HB; intro HB; (try clear hb); (try clear hb2); (try clear hk); (try clear hi)))
    go_ret2
    exact ⟨zz9, zz20⟩
  subst c4
  rw [if_pos rfl] at H
  by_cases c5 : t243.toList = a0.toList
  rotate_left
  · rw [if_neg c5] at H
    have c5b0 := beq_eq_false_iff_ne.mpr c5
    have c5b1 := bne_iff_ne.mpr c5
    simp only [Option.some.injEq, Prod.mk.injEq] at H
    obtain ⟨rfl, rfl⟩ := H
    go_enter Tryd.func100, Tryd.ntmps100
    go_wp2_with (first | ((with_reducible refine gate_callee (f := 99) rfl ?_); refine qcall 11 Tryd.func99 rfl #[.string a0, .string (⟨#[35]⟩ : ByteArray)] ?_; (with_reducible refine (strings_Cut.calls a0 (⟨#[35]⟩ : ByteArray) t240 t241 t242 _ ?side1 A2.out).mono ?_); (case side1 => exact zz86); rintro e w8 ⟨rfl, hb⟩; refine ⟨_, rfl, ?_⟩; refine qs1 (below_step zz20 hb) ?_; clear HB; intro HB; (try clear hb); (try clear hb2); (try clear hk); (try clear hi)) | ((with_reducible refine gate_callee (f := 112) rfl ?_); refine qcall 17 Tryd.func112 rfl #[.string t240] ?_; (with_reducible refine (impl_AppendChecksum.calls k t240 t243 true _ ?side1 A3.out).mono ?_); (case side1 => exact zz86); rintro e w9 ⟨rfl, hb⟩; refine ⟨_, rfl, ?_⟩; refine qs1 (below_step zz20 hb) ?_; clear HB; intro HB; (try clear hb); (try clear hb2); (try clear hk); (try clear hi)))
    go_ret2
    exact ⟨zz9, zz20⟩
  rw [if_pos c5] at H
  have c5b0 := beq_iff_eq.mpr c5
  have c5b1 := bne_eq_false_iff_eq.mpr c5
  clear c5
  simp only [Option.some.injEq, Prod.mk.injEq] at H
  obtain ⟨rfl, rfl⟩ := H
  go_enter Tryd.func100, Tryd.ntmps100
  go_wp2_with (first | ((with_reducible refine gate_callee (f := 99) rfl ?_); refine qcall 11 Tryd.func99 rfl #[.string a0, .string (⟨#[35]⟩ : ByteArray)] ?_; (with_reducible refine (strings_Cut.calls a0 (⟨#[35]⟩ : ByteArray) t240 t241 t242 _ ?side1 A2.out).mono ?_); (case side1 => exact zz86); rintro e w6 ⟨rfl, hb⟩; refine ⟨_, rfl, ?_⟩; refine qs1 (below_step zz20 hb) ?_; clear HB; intro HB; (try clear hb); (try clear hb2); (try clear hk); (try clear hi)) | ((with_reducible refine gate_callee (f := 112) rfl ?_); refine qcall 17 Tryd.func112 rfl #[.string t240] ?_; (with_reducible refine (impl_AppendChecksum.calls k t240 t243 true _ ?side1 A3.out).mono ?_); (case side1 => exact zz86); rintro e w7 ⟨rfl, hb⟩; refine ⟨_, rfl, ?_⟩; refine qs1 (below_step zz20 hb) ?_; clear HB; intro HB; (try clear hb); (try clear hb2); (try clear hk); (try clear hi)))
  go_ret2
  exact ⟨zz9, zz20⟩


end Go.Proofs.YtneaeaoemhghdaaDoor.G

-- Written by a program of this session (wip/pd.py), which calls the kit's print; externals' contracts by hand.
namespace Go.Proofs.YtneaeaoemhghdaaDoor.G
open Go.Proofs.YtneaeaoemhghdaaDoorQ
open Go.RowKit Go.Proofs.YtneaeaoemhghdaaDoorW.PrintWords Go.Proofs.YtneaeaoemhghdaaDoorW.PrintLast Go.Proofs.YtneaeaoemhghdaaDoorW.PrintMore
attribute [local go_sem] max2_int min2_int max_two min_two max_three min_three max_four min_four   -- for this text's walks alone
set_option linter.unusedVariables false
set_option linter.unusedSimpArgs false

/-! ### impl_isPlain: function 121 (by hand) -/
open Go.Shelf in
theorem areAllc {α : Type} (enc : α → Value) (p : α → Bool) (g B : Nat) (lb : Array Value) (w : World) (eg : ∀ args w, (callFunc g args).run Tryd.prog w = .ok (.enter g args) w)
    (hp : PredAt Tryd.prog g lb enc p w) (hB : B < w.heap.size) (hc : w.cell? ⟨B, 0, none⟩ = some (.func (.func g) #[] lb)) :
    PredAt Tryd.prog 132 #[.pointer (some ⟨B, 0, none⟩)] enc (fun x => !p x) w := fun W x hb => by
  have hc' : W.cell? ⟨B, 0, none⟩ = some (.func (.func g) #[] lb) := (hb.cell (p := ⟨B, 0, none⟩) hB).trans hc
  have hq := hp W x hb
  clear hp hb hc
  show Calls Tryd.prog 132 #[enc x, .pointer (some ⟨B, 0, none⟩)] W fun e w' => e = .returned (.bool (!p x)) ∧ ∃ q, w' = W.drewN q
  unfold FnGives at hq
  generalize enc x = v at hq ⊢
  generalize p x = r at hq ⊢
  go_enter Tryd.func132, Tryd.ntmps132
  go_wp2_with (go_at_fn g; refine hq.mono ?_; rintro e w' ⟨rfl, q, rfl⟩)
  go_ret
  exact ⟨rfl, _, rfl⟩

open Go.Shelf in
theorem areAll_any {α : Type} [Inhabited α] (enc : α → Value) (p : α → Bool) (g : Nat) (lb : Array Value) (b off n c : Nat) (zs : List α) (w : World) (eg : ∀ args w, (callFunc g args).run Tryd.prog w = .ok (.enter g args) w)
    (hp : PredAt Tryd.prog g lb enc p w) (hz : n ≤ zs.length) (hbig : n ≤ 9223372036854775807) (hc : ∀ j, j < zs.length → w.cell? ⟨b, off + j, none⟩ = some (enc zs[j]!)) :
    Calls Tryd.prog 127 #[.slice (some ⟨b, off, none⟩) n c, .func (.func g) #[] lb] w fun e w' => e = .returned (.bool ((zs.take n).all p)) ∧ Below w.heap.size w w' := by
  have e81 : ∀ args w, (callFunc 132 args).run Tryd.prog w = .ok (.enter 132 args) w := enters_of Tryd.func132 (by kernel_rfl) rfl
  have hp' : PredAt Tryd.prog g lb enc p (w.alloc (.cells #[.func (.func g) #[] lb] 161)) := fun W x hb => hp W x ((below_alloc (Below.refl _ _) _).trans (hb.mono (by simp)))
  have hcon := AnyE.slices_ContainsFunc Tryd.laysH131 enc (fun x => !p x) 132 #[.pointer (some ⟨w.heap.size, 0, none⟩)] e81 b off n c zs (w.alloc (.cells #[.func (.func g) #[] lb] 161))
    (areAllc enc p g w.heap.size lb _ eg hp' (by simp) (by simp)) hz hbig (fun j hj => Lib.cell?_alloc_some _ (hc j hj))
  change Calls Tryd.prog 131 _ _ _ at hcon
  have e : (zs.take n).all p = !(zs.take n).any fun x => !p x := by simp [List.all_eq_not_any_not]
  rw [e]
  clear hc hp hp' e
  generalize (zs.take n).any (fun x => !p x) = r at hcon ⊢
  go_enter Tryd.func127, Tryd.ntmps127
  go_wp2_with (go_at_call 131; refine hcon.mono ?_; rintro e w' ⟨rfl, q, rfl⟩)
  go_ret
  exact ⟨rfl, pw_below_drewN ((Below.refl _ w).alloc (Nat.le_refl _) _) q⟩
theorem areAll_nil (g : Nat) (lb : Array Value) (a : Option Addr) (c : Nat) (w : World) :
    Calls Tryd.prog 127 #[.slice a 0 c, .func (.func g) #[] lb] w fun e w' => e = .returned (.bool true) ∧ Below w.heap.size w w' := by
  have hcon := AnyE.slices_ContainsFunc_empty Tryd.laysH131 a c (.func (.func 132) #[] #[.pointer (some ⟨w.heap.size, 0, none⟩)]) (w.alloc (.cells #[.func (.func g) #[] lb] 161))
  change Calls Tryd.prog 131 _ _ _ at hcon
  go_enter Tryd.func127, Tryd.ntmps127
  go_wp2_with (go_at_call 131; refine hcon.mono ?_; rintro e w' ⟨rfl, rfl⟩)
  go_ret
  exact ⟨rfl, ((Below.refl _ w).alloc (Nat.le_refl _) _)⟩

def plainB (b : UInt8) : Bool := decide (32 ≤ b.toNat) && decide (b.toNat ≤ 126) && decide (b.toNat ≠ 35)
theorem plain_gives (w : World) : Go.Proofs.PredAt Tryd.prog 128 #[] (fun b : UInt8 => Value.int .u8 (b.toNat : Int)) plainB w := fun W x hb => by
  show Calls Tryd.prog 128 #[.int .u8 (x.toNat : Int)] W fun e w' => e = .returned (.bool (plainB x)) ∧ ∃ q, w' = W.drewN q
  clear hb
  unfold plainB
  generalize x.toNat = n
  by_cases h1 : 32 ≤ n
  rotate_left
  · go_enter Tryd.func128, Tryd.ntmps128
    go_wp2
    go_ret
    exact ⟨by first | (simp [h1]; done) | (simp [h1]; omega), 0, rfl⟩
  by_cases h2 : n ≤ 126
  rotate_left
  · go_enter Tryd.func128, Tryd.ntmps128
    go_wp2
    go_ret
    exact ⟨by first | (simp [h1, h2]; done) | (simp [h1, h2]; omega), 0, rfl⟩
  by_cases h3 : n = 35
  · subst h3
    go_enter Tryd.func128, Tryd.ntmps128
    go_wp2
    go_ret
    exact ⟨rfl, 0, rfl⟩
  have h4 : ¬ (n : Int) = 35 := by omega
  go_enter Tryd.func128, Tryd.ntmps128
  go_wp2
  go_ret
  exact ⟨by simp [h1, h2, h3, h4], 0, rfl⟩
def impl_isPlain.f (a0 : ByteArray) : Option Bool := if a0.size ≤ 9223372036854775807 then some (a0.data.toList.all plainB) else none
theorem impl_isPlain.calls (a0 : ByteArray) (r : Bool) (w : World) (h : impl_isPlain.f a0 = some r) :
    Calls Tryd.prog 121 #[.string a0] w fun e w' => e = .returned (.bool r) ∧ Below w.heap.size w w' := by
  unfold impl_isPlain.f at h
  split at h
  · rename_i hs
    obtain rfl := Option.some.inj h
    have e73 : ∀ args w, (callFunc 128 args).run Tryd.prog w = .ok (.enter 128 args) w := enters_of Tryd.func128 (by kernel_rfl) rfl
    have hcv := Lib.run_convert_string_bytes (P := Tryd.prog) w 9 22 5 a0 Tryd.underlying9 Tryd.underlying22 Tryd.underlying5
    have hcon : Calls Tryd.prog 127 #[.slice (some ⟨w.heap.size, 0, none⟩) a0.size (grownCap w a0.size 0 5), .func (.func 128) #[] #[]] (Lib.bytesWorld w 5 a0) fun e w' => e = .returned (.bool (a0.data.toList.all plainB)) ∧ Below (Lib.bytesWorld w 5 a0).heap.size (Lib.bytesWorld w 5 a0) w' := by
      by_cases h0 : a0.size = 0
      · have : a0.data.toList = [] := List.eq_nil_of_length_eq_zero h0
        rw [this, h0]
        exact areAll_nil 128 #[] _ _ _
      have hl : a0.data.toList.length = a0.size := rfl
      have := areAll_any (fun b : UInt8 => Value.int .u8 (b.toNat : Int)) plainB 128 #[] w.heap.size 0 a0.size (grownCap w a0.size 0 5) a0.data.toList (Lib.bytesWorld w 5 a0) e73 (plain_gives _) (by omega) hs (fun j hj => by
        rw [show (0 + j) = j by omega, Lib.bytesWorld_cell w 5 a0 j hj]
        simp [List.getD_eq_getElem?_getD, List.getElem!_eq_getElem?_getD]
        rfl)
      rw [List.take_of_length_le (by omega)] at this
      exact this
    have HB := below_bytesWorld w 5 a0
    generalize Lib.bytesWorld w 5 a0 = W1 at hcv hcon HB
    generalize grownCap w a0.size 0 5 = c at hcv hcon
    generalize a0.data.toList.all plainB = r at hcon ⊢
    have HB' := Lib.hid HB
    clear HB
    go_enter Tryd.func121, Tryd.ntmps121
    go_wp2_with (go_at_call 127; refine hcon.mono ?_; rintro e w' ⟨rfl, hb⟩)
    go_ret
    exact ⟨rfl, HB'.out.trans (hb.mono HB'.out.size)⟩
  · cases h


/-! ### impl_IsValidRecord: function 113 -/
def impl_IsValidRecord.f (a0_0 : ByteArray) (a0_1 : ByteArray) : Option (Bool) := (impl_in.f (a0_0.size : Int) 1 160).bind fun t246 => (if t246 = true then ((impl_isPlain.f a0_0).bind fun t247 => (if t247 = true then ((strings_Contains.f a0_0 (⟨#[64]⟩ : ByteArray)).bind fun t248 => (if t248 = true then (some false) else (if (a0_1.size : Int) ≤ 200 then ((impl_isPlain.f a0_1).bind fun t249 => (some t249)) else (some false)))) else (some false))) else (some false))
set_option maxHeartbeats 8000000 in
set_option maxRecDepth 100000 in
theorem impl_IsValidRecord.calls (a0_0 : ByteArray) (a0_1 : ByteArray) (r : Bool) (w : World) (hG : Gl w) (h : impl_IsValidRecord.f a0_0 a0_1 = some r) :
    Calls Tryd.prog 113 #[.agg #[.string a0_0, .string a0_1]] w fun e w' => e = .returned (.bool r) ∧ Below w.heap.size w w' := by
  have hu127 := Tryd.underlying127
  have HG := Aside0.mk hG
  clear hG
  have HB := Aside0.mk (Below.refl w.heap.size w)
  unfold impl_IsValidRecord.f at h
  have H := h
  clear h
  replace H := Option.bind_eq_some_iff.mp H
  obtain ⟨t246, A20, H⟩ := H
  (try dsimp only at H)
  have A2 := Aside0.mk A20
  clear A20
  by_cases c3 : t246 = true
  rotate_left
  · replace c3 := Bool.eq_false_iff.mpr c3
    subst c3
    rw [if_neg (show ¬ (false = true) by decide)] at H
    obtain rfl := Option.some.inj H
    go_enter Tryd.func113, Tryd.ntmps113
    go_wp2_with (first | ((with_reducible refine gate_dst (N := 1) rfl ?_); (try (refine gate_guard (by rfl) ?_; dsimp only)); refine qbox (N := 1) (cs := #[.string a0_0, .string a0_1]) (t := 127) ?_; intro gb245 hg w31 hbox hb; refine qs4 (below_step zz20 hb) (hbox) ((zz87 : w.heap.size ≤ gb245)) ((zz87 : w.heap.size ≤ gb245)) ?_; clear HB; intro HB BK245 GW245 GE245; clear hb hbox hg; obtain ⟨hcz32_0, hcz32_1, hfz32_0, hfz32_1⟩ := qc2 BK245.out) | ((with_reducible refine gate_callee (f := 40) rfl ?_); refine qcall 7 Tryd.func40 rfl #[.int .i64 (a0_0.size : Int), .int .i64 1, .int .i64 160] ?_; (with_reducible refine (impl_in.calls (a0_0.size : Int) 1 160 false _ A2.out).mono ?_); rintro e w' ⟨rfl, ⟨nd, rfl⟩⟩; refine ⟨_, rfl, ?_⟩))
    go_ret
    exact ⟨zz9, zz28⟩
  subst c3
  rw [if_pos rfl] at H
  replace H := Option.bind_eq_some_iff.mp H
  obtain ⟨t247, A40, H⟩ := H
  (try dsimp only at H)
  have A4 := Aside0.mk A40
  clear A40
  by_cases c5 : t247 = true
  rotate_left
  · replace c5 := Bool.eq_false_iff.mpr c5
    subst c5
    rw [if_neg (show ¬ (false = true) by decide)] at H
    obtain rfl := Option.some.inj H
    go_enter Tryd.func113, Tryd.ntmps113
    go_wp2_with (first | ((with_reducible refine gate_dst (N := 1) rfl ?_); (try (refine gate_guard (by rfl) ?_; dsimp only)); refine qbox (N := 1) (cs := #[.string a0_0, .string a0_1]) (t := 127) ?_; intro gb245 hg w28 hbox hb; refine qs4 (below_step zz20 hb) (hbox) ((zz87 : w.heap.size ≤ gb245)) ((zz87 : w.heap.size ≤ gb245)) ?_; clear HB; intro HB BK245 GW245 GE245; clear hb hbox hg; obtain ⟨hcz29_0, hcz29_1, hfz29_0, hfz29_1⟩ := qc2 BK245.out) | ((with_reducible refine gate_callee (f := 40) rfl ?_); refine qcall 7 Tryd.func40 rfl #[.int .i64 (a0_0.size : Int), .int .i64 1, .int .i64 160] ?_; (with_reducible refine (impl_in.calls (a0_0.size : Int) 1 160 true _ A2.out).mono ?_); rintro e w' ⟨rfl, ⟨nd, rfl⟩⟩; refine ⟨_, rfl, ?_⟩) | (go_at_call 121; (with_reducible refine (impl_isPlain.calls a0_0 false _ A4.out).mono ?_); rintro e w30 ⟨rfl, hb⟩; refine qs2 (blk_below (qb BK245.out) hb) (below_step zz28 hb) ?_; clear BK245 HB; intro BK245 HB; (try clear hb); (try clear hb2); (try clear hk); (try clear hi)))
    go_ret
    exact ⟨zz9, zz28⟩
  subst c5
  rw [if_pos rfl] at H
  replace H := Option.bind_eq_some_iff.mp H
  obtain ⟨t248, A60, H⟩ := H
  (try dsimp only at H)
  have A6 := Aside0.mk A60
  clear A60
  by_cases c7 : t248 = true
  · subst c7
    rw [if_pos rfl] at H
    obtain rfl := Option.some.inj H
    go_enter Tryd.func113, Tryd.ntmps113
    go_wp2_with (first | ((with_reducible refine gate_dst (N := 1) rfl ?_); (try (refine gate_guard (by rfl) ?_; dsimp only)); refine qbox (N := 1) (cs := #[.string a0_0, .string a0_1]) (t := 127) ?_; intro gb245 hg w8 hbox hb; refine qs4 (below_step zz20 hb) (hbox) ((zz87 : w.heap.size ≤ gb245)) ((zz87 : w.heap.size ≤ gb245)) ?_; clear HB; intro HB BK245 GW245 GE245; clear hb hbox hg; obtain ⟨hcz9_0, hcz9_1, hfz9_0, hfz9_1⟩ := qc2 BK245.out) | ((with_reducible refine gate_callee (f := 40) rfl ?_); refine qcall 7 Tryd.func40 rfl #[.int .i64 (a0_0.size : Int), .int .i64 1, .int .i64 160] ?_; (with_reducible refine (impl_in.calls (a0_0.size : Int) 1 160 true _ A2.out).mono ?_); rintro e w' ⟨rfl, ⟨nd, rfl⟩⟩; refine ⟨_, rfl, ?_⟩) | (go_at_call 121; (with_reducible refine (impl_isPlain.calls a0_0 true _ A4.out).mono ?_); rintro e w10 ⟨rfl, hb⟩; refine qs2 (blk_below (qb BK245.out) hb) (below_step zz28 hb) ?_; clear BK245 HB; intro BK245 HB; (try clear hb); (try clear hb2); (try clear hk); (try clear hi); obtain ⟨hcz11_0, hcz11_1, hfz11_0, hfz11_1⟩ := qc2 BK245.out) | (go_at_call 120; (with_reducible refine (strings_Contains.calls a0_0 (⟨#[64]⟩ : ByteArray) true _ ?side1 A6.out).mono ?_); (case side1 => exact Gl.below HG.out zz28); rintro e w12 ⟨rfl, hb⟩; refine qs2 (blk_below (qb BK245.out) hb) (below_step zz28 hb) ?_; clear BK245 HB; intro BK245 HB; (try clear hb); (try clear hb2); (try clear hk); (try clear hi)))
    go_ret
    exact ⟨zz9, zz28⟩
  replace c7 := Bool.eq_false_iff.mpr c7
  subst c7
  rw [if_neg (show ¬ (false = true) by decide)] at H
  by_cases c13 : (a0_1.size : Int) ≤ 200
  rotate_left
  · rw [if_neg c13] at H
    have c13b0 := decide_eq_false c13
    have c13b1 : decide (a0_1.size ≤ 200) = false := decide_eq_false (by omega)
    clear c13
    obtain rfl := Option.some.inj H
    go_enter Tryd.func113, Tryd.ntmps113
    go_wp2_with (first | ((with_reducible refine gate_dst (N := 1) rfl ?_); (try (refine gate_guard (by rfl) ?_; dsimp only)); refine qbox (N := 1) (cs := #[.string a0_0, .string a0_1]) (t := 127) ?_; intro gb245 hg w22 hbox hb; refine qs4 (below_step zz20 hb) (hbox) ((zz87 : w.heap.size ≤ gb245)) ((zz87 : w.heap.size ≤ gb245)) ?_; clear HB; intro HB BK245 GW245 GE245; clear hb hbox hg; obtain ⟨hcz23_0, hcz23_1, hfz23_0, hfz23_1⟩ := qc2 BK245.out) | ((with_reducible refine gate_callee (f := 40) rfl ?_); refine qcall 7 Tryd.func40 rfl #[.int .i64 (a0_0.size : Int), .int .i64 1, .int .i64 160] ?_; (with_reducible refine (impl_in.calls (a0_0.size : Int) 1 160 true _ A2.out).mono ?_); rintro e w' ⟨rfl, ⟨nd, rfl⟩⟩; refine ⟨_, rfl, ?_⟩) | (go_at_call 121; (with_reducible refine (impl_isPlain.calls a0_0 true _ A4.out).mono ?_); rintro e w24 ⟨rfl, hb⟩; refine qs2 (blk_below (qb BK245.out) hb) (below_step zz28 hb) ?_; clear BK245 HB; intro BK245 HB; (try clear hb); (try clear hb2); (try clear hk); (try clear hi); obtain ⟨hcz25_0, hcz25_1, hfz25_0, hfz25_1⟩ := qc2 BK245.out) | (go_at_call 120; (with_reducible refine (strings_Contains.calls a0_0 (⟨#[64]⟩ : ByteArray) false _ ?side1 A6.out).mono ?_); (case side1 => exact Gl.below HG.out zz28); rintro e w26 ⟨rfl, hb⟩; refine qs2 (blk_below (qb BK245.out) hb) (below_step zz28 hb) ?_; clear BK245 HB; intro BK245 HB; (try clear hb); (try clear hb2); (try clear hk); (try clear hi); obtain ⟨hcz27_0, hcz27_1, hfz27_0, hfz27_1⟩ := qc2 BK245.out))
    go_ret
    exact ⟨zz9, zz28⟩
  rw [if_pos c13] at H
  have c13b0 := decide_eq_true c13
  have c13b1 : decide (a0_1.size ≤ 200) = true := decide_eq_true (by omega)
  clear c13
  replace H := Option.bind_eq_some_iff.mp H
  obtain ⟨t249, A140, H⟩ := H
  replace H : (some t249) = some r := H
  have A14 := Aside0.mk A140
  clear A140
  obtain rfl := Option.some.inj H
  go_enter Tryd.func113, Tryd.ntmps113
  go_wp2_with (first | ((with_reducible refine gate_dst (N := 1) rfl ?_); (try (refine gate_guard (by rfl) ?_; dsimp only)); refine qbox (N := 1) (cs := #[.string a0_0, .string a0_1]) (t := 127) ?_; intro gb245 hg w15 hbox hb; refine qs4 (below_step zz20 hb) (hbox) ((zz87 : w.heap.size ≤ gb245)) ((zz87 : w.heap.size ≤ gb245)) ?_; clear HB; intro HB BK245 GW245 GE245; clear hb hbox hg; obtain ⟨hcz16_0, hcz16_1, hfz16_0, hfz16_1⟩ := qc2 BK245.out) | ((with_reducible refine gate_callee (f := 40) rfl ?_); refine qcall 7 Tryd.func40 rfl #[.int .i64 (a0_0.size : Int), .int .i64 1, .int .i64 160] ?_; (with_reducible refine (impl_in.calls (a0_0.size : Int) 1 160 true _ A2.out).mono ?_); rintro e w' ⟨rfl, ⟨nd, rfl⟩⟩; refine ⟨_, rfl, ?_⟩) | (go_at_call 121; (with_reducible refine (impl_isPlain.calls a0_0 true _ A4.out).mono ?_); rintro e w17 ⟨rfl, hb⟩; refine qs2 (blk_below (qb BK245.out) hb) (below_step zz28 hb) ?_; clear BK245 HB; intro BK245 HB; (try clear hb); (try clear hb2); (try clear hk); (try clear hi); obtain ⟨hcz18_0, hcz18_1, hfz18_0, hfz18_1⟩ := qc2 BK245.out) | (go_at_call 120; (with_reducible refine (strings_Contains.calls a0_0 (⟨#[64]⟩ : ByteArray) false _ ?side1 A6.out).mono ?_); (case side1 => exact Gl.below HG.out zz28); rintro e w19 ⟨rfl, hb⟩; refine qs2 (blk_below (qb BK245.out) hb) (below_step zz28 hb) ?_; clear BK245 HB; intro BK245 HB; (try clear hb); (try clear hb2); (try clear hk); (try clear hi); obtain ⟨hcz20_0, hcz20_1, hfz20_0, hfz20_1⟩ := qc2 BK245.out) | (go_at_call 121; (with_reducible refine (impl_isPlain.calls a0_1 t249 _ A14.out).mono ?_); rintro e w21 ⟨rfl, hb⟩; refine qs2 (blk_below (qb BK245.out) hb) (below_step zz28 hb) ?_; clear BK245 HB; intro BK245 HB; (try clear hb); (try clear hb2); (try clear hk); (try clear hi)))
  go_ret
  exact ⟨zz9, zz28⟩


section
attribute [local go_sem high] run_add_cat run_slice_cat run_slice_cat_h run_slice_cat_l run_slice_cat_all
/-! ### impl_EncodeRecord: function 101 -/
def impl_EncodeRecord.j0 : Nat → Int → Bool → ByteArray → ByteArray → Option (ByteArray × Bool)
  | 0, _, _, _, _ => none
  | k + 1, x0, x15, x251000, x251001 => if x15 = true then (some ((⟨#[]⟩ : ByteArray), false)) else ((impl_decimal.f x0).bind fun t253 => (if t253.size + 1 ≤ 9223372036854775807 then (if (cat t253 (⟨#[32]⟩ : ByteArray)).size + x251000.size ≤ 9223372036854775807 then (if (cat (cat t253 (⟨#[32]⟩ : ByteArray)) x251000).size + 1 ≤ 9223372036854775807 then (if (cat (cat (cat t253 (⟨#[32]⟩ : ByteArray)) x251000) (⟨#[64]⟩ : ByteArray)).size + x251001.size ≤ 9223372036854775807 then ((impl_AppendChecksum.f k (cat (cat (cat (cat t253 (⟨#[32]⟩ : ByteArray)) x251000) (⟨#[64]⟩ : ByteArray)) x251001)).bind fun bt254 => (if bt254.1.size + 1 ≤ 9223372036854775807 then (some (cat bt254.1 (⟨#[10]⟩ : ByteArray), true)) else (none))) else (none)) else (none)) else (none)) else (none)))
def impl_EncodeRecord.f (k : Nat) (a0 : Int) (a1_0 : ByteArray) (a1_1 : ByteArray) : Option (ByteArray × Bool) := (impl_in.f a0 0 59).bind fun t251 => (if t251 = true then ((impl_IsValidRecord.f a1_0 a1_1).bind fun t252 => (impl_EncodeRecord.j0 k a0 (!t252) a1_0 a1_1)) else (impl_EncodeRecord.j0 k a0 true a1_0 a1_1))
def impl_EncodeRecord.T3 : Bool × List (List Nat × List Nat) := (true, [([], []), ([0], [0]), ([1], [1]), ([], []), ([3], [3]), ([2, 4], [2, 4]), ([5], [5]), ([], []), ([7], [7]), ([6, 8], [6, 8]), ([9, 1], [9]), ([10], [10]), ([11], [11]), ([11], [11]), ([12, 10, 0, 1, 2, 3, 4, 5, 6, 7, 8, 9, 10, 11, 12], [12]), ([13, 14, 0, 1, 2, 3, 4, 5, 6, 7, 8, 9, 10, 11, 12, 13, 14], [13])])
def impl_EncodeRecord.B3 : List Nat := [0, 1, 3, 0, 8, 31, 63, 0, 128, 511, 1023, 2047, 4095, 4095, 8191, 32767]
theorem impl_EncodeRecord.tab3 : rtab .any (opsOf Tryd.f101 3) = impl_EncodeRecord.T3 := by kernel_rfl
theorem impl_EncodeRecord.bits3 : waitsOk impl_EncodeRecord.T3.2 impl_EncodeRecord.B3 = true := by kernel_rfl
set_option maxHeartbeats 8000000 in
set_option maxRecDepth 100000 in
theorem impl_EncodeRecord.calls (k : Nat) (a0 : Int) (a1_0 : ByteArray) (a1_1 : ByteArray) (r1 : ByteArray) (r2 : Bool) (w : World) (hG : Gl w) (h : impl_EncodeRecord.f k a0 a1_0 a1_1 = some (r1, r2)) :
    Calls Tryd.prog 101 #[.int .i64 a0, .agg #[.string a1_0, .string a1_1]] w fun e w' => e = .returned (.tuple #[.string r1, .bool r2]) ∧ Below w.heap.size w w' := by
  have hu127 := Tryd.underlying127
  have HG := Aside0.mk hG
  clear hG
  have HB := Aside0.mk (Below.refl w.heap.size w)
  unfold impl_EncodeRecord.f at h
  have H := h
  clear h
  have HC3 := Aside0.mk H
  clear H
  go_enter Tryd.func101, Tryd.ntmps101
  go_upto_region 1 with (first | ((with_reducible refine gate_dst (N := 3) rfl ?_); refine qbox (N := 3) (cs := #[.string a1_0, .string a1_1]) (t := 127) ?_; intro gb250 hg w4 hbox hb; refine qs4 (below_step zz20 hb) (hbox) ((zz87 : w.heap.size ≤ gb250)) ((zz87 : w.heap.size ≤ gb250)) ?_; clear HB; intro HB BK250 GW250 GE250; clear hb hbox hg))
  (try simp only [Act.put, List.setIfInBounds_toArray, List.set_cons_zero, List.set_cons_succ])
  go_cut [15] (fun v15 wc => ∃ (kq : Nat) (x15_2 : Bool), v15 = .bool x15_2 ∧ Aside0 (impl_EncodeRecord.j0 kq a0 x15_2 a1_0 a1_1 = some (r1, r2)) ∧ Aside0 (kq ≤ k) ∧ Aside0 (wc.heap[gb250]? = some (.cells #[.string a1_0, .string a1_1] 127 (0, 0))) ∧ Aside0 (Below w.heap.size w wc))
  case first =>
    have H := HC3.out
    clear HC3
    replace H := Option.bind_eq_some_iff.mp H
    obtain ⟨t251, A50, H⟩ := H
    (try dsimp only at H)
    have A5 := Aside0.mk A50
    clear A50
    by_cases c6 : t251 = true
    rotate_left
    · replace c6 := Bool.eq_false_iff.mpr c6
      subst c6
      rw [if_neg (show ¬ (false = true) by decide)] at H
      have H' := Aside0.mk H
      clear H
      go_wp2_with (first | ((with_reducible refine gate_callee (f := 40) rfl ?_); refine qcall 9 Tryd.func40 rfl #[.int .i64 a0, .int .i64 0, .int .i64 59] ?_; (with_reducible refine (impl_in.calls a0 0 59 false _ A5.out).mono ?_); rintro e w' ⟨rfl, ⟨nd, rfl⟩⟩; refine ⟨_, rfl, ?_⟩))
      go_meet
      case rel => exact ⟨_, (true), zz4, H', ⟨zz2⟩, ⟨by (with_reducible repeat (first | refine blk_drewN ?_ _ | refine blk_drew ?_ | refine blk_alloc ?_ _)); exact BK250.out⟩, ⟨zz35⟩⟩
    subst c6
    rw [if_pos rfl] at H
    replace H := Option.bind_eq_some_iff.mp H
    obtain ⟨t252, A70, H⟩ := H
    (try dsimp only at H)
    have A7 := Aside0.mk A70
    clear A70
    have H' := Aside0.mk H
    clear H
    go_wp2_with (first | ((with_reducible refine gate_callee (f := 40) rfl ?_); refine qcall 9 Tryd.func40 rfl #[.int .i64 a0, .int .i64 0, .int .i64 59] ?_; (with_reducible refine (impl_in.calls a0 0 59 true _ A5.out).mono ?_); rintro e w' ⟨rfl, ⟨nd, rfl⟩⟩; refine ⟨_, rfl, ?_⟩; obtain ⟨hcz8_0, hcz8_1, hfz8_0, hfz8_1⟩ := qc2 BK250.out) | (go_at_call 113; (with_reducible refine (impl_IsValidRecord.calls a1_0 a1_1 t252 _ ?side1 A7.out).mono ?_); (case side1 => exact Gl.below HG.out zz35); rintro e w9 ⟨rfl, hb⟩; refine qs2 (blk_below (qb BK250.out) hb) (below_step zz35 hb) ?_; clear BK250 HB; intro BK250 HB; (try clear hb); (try clear hb2); (try clear hk); (try clear hi)))
    go_meet
    case rel => exact ⟨_, (!t252), zz4, H', ⟨zz2⟩, ⟨by (with_reducible repeat (first | refine blk_drewN ?_ _ | refine blk_drew ?_ | refine blk_alloc ?_ _)); exact BK250.out⟩, ⟨zz35⟩⟩
  case rest =>
    clear HC3
    try clear c1
    try clear p2
    try clear c4
    try clear c6
    try clear hcz8_0
    try clear hcz8_1
    try clear hfz8_0
    try clear hfz8_1
    obtain ⟨kq, x15_2, rfl, HA, HJ2, BK250, HB⟩ := hcut
    cases kq with
    | zero => exact absurd HA.out (by simp [impl_EncodeRecord.j0])
    | succ kj2 =>
      have H := HA.out
      clear HA
      simp only [impl_EncodeRecord.j0] at H
      by_cases c10 : x15_2 = true
      · subst c10
        rw [if_pos rfl] at H
        simp only [Option.some.injEq, Prod.mk.injEq] at H
        obtain ⟨rfl, rfl⟩ := H
        go_wp2
        go_ret2
        exact ⟨zz9, zz35⟩
      replace c10 := Bool.eq_false_iff.mpr c10
      subst c10
      rw [if_neg (show ¬ (false = true) by decide)] at H
      replace H := Option.bind_eq_some_iff.mp H
      obtain ⟨t253, A110, H⟩ := H
      (try dsimp only at H)
      have A11 := Aside0.mk A110
      clear A110
      by_cases c12 : t253.size + 1 ≤ 9223372036854775807
      rotate_left
      · rw [if_neg c12] at H
        exact absurd H (by simp)
      rw [if_pos c12] at H
      have c12b0 := eq_true c12
      have c12b1 := decide_eq_true c12
      try have c12b2 := eq_false (Nat.not_lt.2 c12)
      clear c12
      by_cases c13 : (cat t253 (⟨#[32]⟩ : ByteArray)).size + a1_0.size ≤ 9223372036854775807
      rotate_left
      · rw [if_neg c13] at H
        exact absurd H (by simp)
      rw [if_pos c13] at H
      have c13b0 := eq_true c13
      have c13b1 := decide_eq_true c13
      try have c13b2 := eq_false (Nat.not_lt.2 c13)
      clear c13
      by_cases c14 : (cat (cat t253 (⟨#[32]⟩ : ByteArray)) a1_0).size + 1 ≤ 9223372036854775807
      rotate_left
      · rw [if_neg c14] at H
        exact absurd H (by simp)
      rw [if_pos c14] at H
      have c14b0 := eq_true c14
      have c14b1 := decide_eq_true c14
      try have c14b2 := eq_false (Nat.not_lt.2 c14)
      clear c14
      by_cases c15 : (cat (cat (cat t253 (⟨#[32]⟩ : ByteArray)) a1_0) (⟨#[64]⟩ : ByteArray)).size + a1_1.size ≤ 9223372036854775807
      rotate_left
      · rw [if_neg c15] at H
        exact absurd H (by simp)
      rw [if_pos c15] at H
      have c15b0 := eq_true c15
      have c15b1 := decide_eq_true c15
      try have c15b2 := eq_false (Nat.not_lt.2 c15)
      clear c15
      replace H := Option.bind_eq_some_iff.mp H
      obtain ⟨⟨t254, t255⟩, A160, H⟩ := H
      (try dsimp only at H)
      have A16 := Aside0.mk A160
      clear A160
      by_cases c17 : t254.size + 1 ≤ 9223372036854775807
      rotate_left
      · rw [if_neg c17] at H
        exact absurd H (by simp)
      rw [if_pos c17] at H
      have c17b0 := eq_true c17
      have c17b1 := decide_eq_true c17
      try have c17b2 := eq_false (Nat.not_lt.2 c17)
      clear c17
      simp only [Option.some.injEq, Prod.mk.injEq] at H
      obtain ⟨rfl, rfl⟩ := H
      try go_wp2
      refine qs2 (blk_drew BK250.out) (below_drew1 HB.out) ?_; clear BK250 HB; intro BK250 HB
      refine start_ (n := 16) (S := fun w' => w'.cell? ⟨gb250, 0, none⟩ = some (.string a1_0) ∧ w'.cell? ⟨gb250, 1, none⟩ = some (.string a1_1)) (ds := []) #[false, false, false, false, false, false, false, false, false, false, false, false, false, false, false, false] (by kernel_rfl) rfl rfl ⟨(blk_cell BK250.out 0).trans rfl, (blk_cell BK250.out 1).trans rfl⟩ (fun hHeld => ?_); refine with_tabW impl_EncodeRecord.tab3 impl_EncodeRecord.bits3 (fun HT_ HW_ => ?_)
      generalize wc.drew = w18 at BK250 HB hHeld ⊢
      refine qp 0 17 ?_; refine qp 3 20 ?_; refine qp 7 24 ?_; refine qt2 4 21 ?_; refine qt2 8 25 ?_
      refine one_ (i := 1) (N := some 18) #[true, true, false, true, true, false, false, true, true, false, false, false, false, false, false, false] rfl rfl (one_of HT_.out (by kernel_rfl)) (by decide) (fun K hK => ?_)
      refine goes_ Tryd.func41 (by kernel_rfl) rfl #[.int .i64 a0] (by rfl) rfl rfl zz21 ?_
      with_reducible refine (impl_decimal.calls a0 t253 _ ?side1 A11.out).mono ?_
      (case side1 => exact Gl.below HG.out zz35)
      rintro e w19 ⟨rfl, hb⟩
      refine ⟨_, rfl, ?_⟩
      refine qs2 (blk_below (qb BK250.out) hb) (below_step zz35 hb) ?_; clear BK250 HB; intro BK250 HB
      (try clear hb)
      (try clear hb2)
      (try clear hk)
      (try clear hi)
      refine hK.out _ _ ⟨(blk_cell BK250.out 0).trans rfl, (blk_cell BK250.out 1).trans rfl⟩ (fun hHeld => ?_)
      clear hK K
      refine norm_ (a' := ?_) ?_ ?_
      rotate_left
      · show Act.put _ (some 18) _ = _
        simp only [Act.put, List.setIfInBounds_toArray, List.set_cons_zero, List.set_cons_succ, i64_w, i32_w]
        rfl
      refine qp 2 19 ?_; refine qp 5 22 ?_; refine qp 6 23 ?_; refine qp 9 26 ?_
      refine one_ (i := 10) (N := some 27) #[true, true, true, true, true, true, true, true, true, true, true, false, false, false, false, false] rfl rfl (one_of HT_.out (by kernel_rfl)) (by decide) (fun K hK => ?_)
      refine goes_ Tryd.func112 (by kernel_rfl) rfl #[.string (cat (cat (cat (cat t253 (⟨#[32]⟩ : ByteArray)) a1_0) (⟨#[64]⟩ : ByteArray)) a1_1)] (by rfl) rfl rfl zz21 ?_
      with_reducible refine (impl_AppendChecksum.calls kj2 (cat (cat (cat (cat t253 (⟨#[32]⟩ : ByteArray)) a1_0) (⟨#[64]⟩ : ByteArray)) a1_1) t254 t255 _ ?side1 A16.out).mono ?_
      (case side1 => exact Gl.below HG.out zz35)
      rintro e w20 ⟨rfl, hb⟩
      refine ⟨_, rfl, ?_⟩
      refine qs2 (blk_below (qb BK250.out) hb) (below_step zz35 hb) ?_; clear BK250 HB; intro BK250 HB
      (try clear hb)
      (try clear hb2)
      (try clear hk)
      (try clear hi)
      refine hK.out _ _ ⟨(blk_cell BK250.out 0).trans rfl, (blk_cell BK250.out 1).trans rfl⟩ (fun hHeld => ?_)
      clear hK K
      refine norm_ (a' := ?_) ?_ ?_
      rotate_left
      · show Act.put _ (some 27) _ = _
        simp only [Act.put, List.setIfInBounds_toArray, List.set_cons_zero, List.set_cons_succ, i64_w, i32_w]
        rfl
      refine qp 11 16 ?_; refine qp 12 28 ?_; refine qp 13 29 ?_; refine qp 14 6 ?_; refine qp 15 7 ?_
      refine done_ (done_of HT_.out (by kernel_rfl)) ?_
      try go_wp2
      go_ret2
      exact ⟨zz9, zz35⟩

end

/-! ### strings_HasPrefix: function 102 (by hand) -/
def strings_HasPrefix.f (a0 a1 : ByteArray) : Option Bool := some (Lib.hasPrefix a0.data.toList a1.data.toList)
theorem strings_HasPrefix.calls (a0 a1 : ByteArray) (r : Bool) (w : World) (h : strings_HasPrefix.f a0 a1 = some r) :
    Calls Tryd.prog 102 #[.string a0, .string a1] w fun e w' => e = .returned (.bool r) ∧ Drawn0 w w' := by
  obtain rfl := Option.some.inj h
  refine (Tryd.strings_HasPrefix a0 a1 w).mono ?_
  rintro e w' ⟨he, rfl⟩
  exact ⟨he, Drawn0.refl _⟩


/-! ### impl_cutRecord: function 92 -/
def impl_cutRecord.j0 : Nat → ByteArray → Bool → ByteArray → ByteArray → Option (ByteArray × ByteArray × Int)
  | 0, _, _, _, _ => none
  | k + 1, x18, x59, x269000, x269001 => if x59 = true then (some ((⟨#[]⟩ : ByteArray), (⟨#[]⟩ : ByteArray), 0)) else (some (x269000, x269001, (x18.size : Int)))
def impl_cutRecord.f (k : Nat) (a0 : ByteArray) (a1 : Int) : Option (ByteArray × ByteArray × Int) := (strings_Cut.f a0 (⟨#[10]⟩ : ByteArray)).bind fun bt257 => ((impl_VerifyChecksum.f k bt257.1).bind fun bt260 => ((strings_Cut.f bt260.1 (⟨#[32]⟩ : ByteArray)).bind fun bt262 => ((strings_Cut.f bt262.2.1 (⟨#[64]⟩ : ByteArray)).bind fun bt265 => ((impl_EncodeRecord.f k a1 bt265.1 bt265.2.1).bind fun bt269 => (if bt269.2 = true then ((strings_HasPrefix.f a0 bt269.1).bind fun t271 => (impl_cutRecord.j0 k bt269.1 (!t271) bt265.1 bt265.2.1)) else (impl_cutRecord.j0 k bt269.1 true bt265.1 bt265.2.1))))))
set_option maxHeartbeats 8000000 in
set_option maxRecDepth 100000 in
theorem impl_cutRecord.calls (k : Nat) (a0 : ByteArray) (a1 : Int) (r1 : ByteArray) (r2 : ByteArray) (r3 : Int) (w : World) (hG : Gl w) (h : impl_cutRecord.f k a0 a1 = some (r1, r2, r3)) :
    Calls Tryd.prog 92 #[.string a0, .int .i64 a1] w fun e w' => e = .returned (.tuple #[.agg #[.string r1, .string r2], .int .i64 r3]) ∧ Below w.heap.size w w' := by
  have hu127 := Tryd.underlying127
  have HG := Aside0.mk hG
  clear hG
  have HB := Aside0.mk (Below.refl w.heap.size w)
  unfold impl_cutRecord.f at h
  have H := h
  clear h
  replace H := Option.bind_eq_some_iff.mp H
  obtain ⟨⟨t257, t258, t259⟩, A30, H⟩ := H
  (try dsimp only at H)
  have A3 := Aside0.mk A30
  clear A30
  replace H := Option.bind_eq_some_iff.mp H
  obtain ⟨⟨t260, t261⟩, A40, H⟩ := H
  (try dsimp only at H)
  have A4 := Aside0.mk A40
  clear A40
  replace H := Option.bind_eq_some_iff.mp H
  obtain ⟨⟨t262, t263, t264⟩, A50, H⟩ := H
  (try dsimp only at H)
  have A5 := Aside0.mk A50
  clear A50
  replace H := Option.bind_eq_some_iff.mp H
  obtain ⟨⟨t265, t266, t267⟩, A60, H⟩ := H
  (try dsimp only at H)
  have A6 := Aside0.mk A60
  clear A60
  replace H := Option.bind_eq_some_iff.mp H
  obtain ⟨⟨t269, t270⟩, A70, H⟩ := H
  (try dsimp only at H)
  have A7 := Aside0.mk A70
  clear A70
  have HC8 := Aside0.mk H
  clear H
  go_enter Tryd.func92, Tryd.ntmps92
  go_upto_region 7 with (first | ((with_reducible refine gate_dst (N := 4) rfl ?_); refine qbox (N := 4) (cs := #[.string (⟨#[]⟩ : ByteArray), .string (⟨#[]⟩ : ByteArray)]) (t := 127) ?_; intro gb256 hg w9 hbox hb; refine qs4 (below_step zz20 hb) (hbox) ((zz87 : w.heap.size ≤ gb256)) ((zz87 : w.heap.size ≤ gb256)) ?_; clear HB; intro HB BK256 GW256 GE256; clear hb hbox hg) | ((with_reducible refine gate_callee (f := 99) rfl ?_); refine qcall 22 Tryd.func99 rfl #[.string a0, .string (⟨#[10]⟩ : ByteArray)] ?_; (with_reducible refine (strings_Cut.calls a0 (⟨#[10]⟩ : ByteArray) t257 t258 t259 _ ?side1 A3.out).mono ?_); (case side1 => exact Gl.below HG.out zz32); rintro e w10 ⟨rfl, hb⟩; refine ⟨_, rfl, ?_⟩; refine qs2 (blk_below (qb BK256.out) hb) (below_step zz32 hb) ?_; clear BK256 HB; intro BK256 HB; (try clear hb); (try clear hb2); (try clear hk); (try clear hi)) | ((with_reducible refine gate_callee (f := 100) rfl ?_); refine qcall 28 Tryd.func100 rfl #[.string t257] ?_; (with_reducible refine (impl_VerifyChecksum.calls k t257 t260 t261 _ ?side1 A4.out).mono ?_); (case side1 => exact Gl.below HG.out zz32); rintro e w11 ⟨rfl, hb⟩; refine ⟨_, rfl, ?_⟩; refine qs2 (blk_below (qb BK256.out) hb) (below_step zz32 hb) ?_; clear BK256 HB; intro BK256 HB; (try clear hb); (try clear hb2); (try clear hk); (try clear hi)) | ((with_reducible refine gate_callee (f := 99) rfl ?_); refine qcall 33 Tryd.func99 rfl #[.string t260, .string (⟨#[32]⟩ : ByteArray)] ?_; (with_reducible refine (strings_Cut.calls t260 (⟨#[32]⟩ : ByteArray) t262 t263 t264 _ ?side1 A5.out).mono ?_); (case side1 => exact Gl.below HG.out zz32); rintro e w12 ⟨rfl, hb⟩; refine ⟨_, rfl, ?_⟩; refine qs2 (blk_below (qb BK256.out) hb) (below_step zz32 hb) ?_; clear BK256 HB; intro BK256 HB; (try clear hb); (try clear hb2); (try clear hk); (try clear hi)) | ((with_reducible refine gate_callee (f := 99) rfl ?_); refine qcall 39 Tryd.func99 rfl #[.string t263, .string (⟨#[64]⟩ : ByteArray)] ?_; (with_reducible refine (strings_Cut.calls t263 (⟨#[64]⟩ : ByteArray) t265 t266 t267 _ ?side1 A6.out).mono ?_); (case side1 => exact Gl.below HG.out zz32); rintro e w13 ⟨rfl, hb⟩; refine ⟨_, rfl, ?_⟩; refine qs2 (blk_below (qb BK256.out) hb) (below_step zz32 hb) ?_; clear BK256 HB; intro BK256 HB; (try clear hb); (try clear hb2); (try clear hk); (try clear hi)) | ((with_reducible refine gate_dst (N := 17) rfl ?_); refine qbox (N := 17) (cs := #[.string (⟨#[]⟩ : ByteArray), .string (⟨#[]⟩ : ByteArray)]) (t := 127) ?_; intro gb268 hg w14 hbox hb; refine qs7 (blk_below (qb BK256.out) hb) (below_step zz32 hb) (hbox) ((by rw [hg]; exact (below_size zz32) : w.heap.size ≤ gb268)) ((by rw [hg]; exact (below_size zz32) : w.heap.size ≤ gb268)) ((by rw [hg]; exact Nat.ne_of_lt (blk_lt (qb BK256.out)) : gb256 ≠ gb268)) ((by rw [hg]; exact Nat.ne_of_gt (blk_lt (qb BK256.out)) : gb268 ≠ gb256)) ?_; clear BK256 HB; intro BK256 HB BK268 GW268 GE268 NB256_268 NB268_256; clear hb hbox hg; have hnb15 := NB268_256.out; have hnc15 := NB256_268.out; obtain ⟨hcz16_0, hcz16_1, hfz16_0, hfz16_1⟩ := qc2 BK268.out) | ((with_reducible refine gate_callee (f := 101) rfl ?_); refine qcall 49 Tryd.func101 rfl #[.int .i64 a1, .agg #[.string t265, .string t266]] ?_; (with_reducible refine (impl_EncodeRecord.calls k a1 t265 t266 t269 t270 _ ?side1 A7.out).mono ?_); (case side1 => exact Gl.below HG.out zz63); rintro e w17 ⟨rfl, hb⟩; refine ⟨_, rfl, ?_⟩; refine qs3 (blk_below (g := gb256) (o := .cells #[.string (⟨#[]⟩ : ByteArray), .string (⟨#[]⟩ : ByteArray)] 127 (0, 0)) (by (with_reducible repeat (first | refine blk_drewN ?_ _ | refine blk_drew ?_ | refine blk_alloc ?_ _)); refine blk_far ?_ NB256_268.out _; (with_reducible repeat (first | refine blk_drewN ?_ _ | refine blk_drew ?_ | refine blk_alloc ?_ _)); refine blk_far ?_ NB256_268.out _; (with_reducible repeat (first | refine blk_drewN ?_ _ | refine blk_drew ?_ | refine blk_alloc ?_ _)); exact BK256.out) hb) (blk_below (g := gb268) (o := .cells #[.string t265, .string t266] 127 (0, 0)) (by (with_reducible repeat (first | refine blk_drewN ?_ _ | refine blk_drew ?_ | refine blk_alloc ?_ _)); refine blk_put (cs := #[.string t265, .string (⟨#[]⟩ : ByteArray)]) ?_ 1 _ rfl; (with_reducible repeat (first | refine blk_drewN ?_ _ | refine blk_drew ?_ | refine blk_alloc ?_ _)); refine blk_put (cs := #[.string (⟨#[]⟩ : ByteArray), .string (⟨#[]⟩ : ByteArray)]) ?_ 0 _ rfl; (with_reducible repeat (first | refine blk_drewN ?_ _ | refine blk_drew ?_ | refine blk_alloc ?_ _)); exact BK268.out) hb) (below_step zz63 hb) ?_; clear BK256 BK268 HB; intro BK256 BK268 HB; (try clear hb); (try clear hb2); (try clear hk); (try clear hi)))
  (try simp only [Act.put, List.setIfInBounds_toArray, List.set_cons_zero, List.set_cons_succ])
  go_cut [59] (fun v59 wc => ∃ (kq : Nat) (x59_7 : Bool), v59 = .bool x59_7 ∧ Aside0 (impl_cutRecord.j0 kq t269 x59_7 t265 t266 = some (r1, r2, r3)) ∧ Aside0 (kq ≤ k) ∧ Aside0 (wc.heap[gb256]? = some (.cells #[.string (⟨#[]⟩ : ByteArray), .string (⟨#[]⟩ : ByteArray)] 127 (0, 0))) ∧ Aside0 (wc.heap[gb268]? = some (.cells #[.string t265, .string t266] 127 (0, 0))) ∧ Aside0 (Below w.heap.size w wc))
  case first =>
    have H := HC8.out
    clear HC8
    by_cases c18 : t270 = true
    rotate_left
    · replace c18 := Bool.eq_false_iff.mpr c18
      subst c18
      rw [if_neg (show ¬ (false = true) by decide)] at H
      have H' := Aside0.mk H
      clear H
      go_wp2
      go_meet
      case rel => exact ⟨_, (true), zz4, H', ⟨zz2⟩, ⟨by (with_reducible repeat (first | refine blk_drewN ?_ _ | refine blk_drew ?_ | refine blk_alloc ?_ _)); exact BK256.out⟩, ⟨by (with_reducible repeat (first | refine blk_drewN ?_ _ | refine blk_drew ?_ | refine blk_alloc ?_ _)); exact BK268.out⟩, ⟨zz63⟩⟩
    subst c18
    rw [if_pos rfl] at H
    replace H := Option.bind_eq_some_iff.mp H
    obtain ⟨t271, A190, H⟩ := H
    (try dsimp only at H)
    have A19 := Aside0.mk A190
    clear A190
    have H' := Aside0.mk H
    clear H
    go_wp2_with (first | (go_at_call 102; (with_reducible refine (strings_HasPrefix.calls a0 t269 t271 _ A19.out).mono ?_); rintro e w' ⟨rfl, ⟨nd, rfl⟩⟩))
    go_meet
    case rel => exact ⟨_, (!t271), zz4, H', ⟨zz2⟩, ⟨by (with_reducible repeat (first | refine blk_drewN ?_ _ | refine blk_drew ?_ | refine blk_alloc ?_ _)); exact BK256.out⟩, ⟨by (with_reducible repeat (first | refine blk_drewN ?_ _ | refine blk_drew ?_ | refine blk_alloc ?_ _)); exact BK268.out⟩, ⟨zz63⟩⟩
  case rest =>
    clear HC8
    try clear c1
    try clear p2
    try clear c9
    try clear c10
    try clear c15
    try clear c18
    try clear hcz16_0
    try clear hcz16_1
    try clear hfz16_0
    try clear hfz16_1
    obtain ⟨kq, x59_7, rfl, HA, HJ7, BK256, BK268, HB⟩ := hcut
    cases kq with
    | zero => exact absurd HA.out (by simp [impl_cutRecord.j0])
    | succ kj7 =>
      have H := HA.out
      clear HA
      simp only [impl_cutRecord.j0] at H
      by_cases c20 : x59_7 = true
      · subst c20
        rw [if_pos rfl] at H
        simp only [Option.some.injEq, Prod.mk.injEq] at H
        obtain ⟨rfl, rfl, rfl⟩ := H
        have hnb21 := NB256_268.out
        have hnc21 := NB268_256.out
        obtain ⟨hcz22_0, hcz22_1, hfz22_0, hfz22_1⟩ := qc2 BK256.out
        go_wp2
        refine bodyPost_ret (results_ct rfl _ _ gb256 127 #[.string (⟨#[]⟩ : ByteArray), .string (⟨#[]⟩ : ByteArray)] (0, 0) _ rfl (by (with_reducible repeat (first | refine blk_drewN ?_ _ | refine blk_drew ?_ | refine blk_alloc ?_ _)); refine blk_put (cs := #[.string (⟨#[]⟩ : ByteArray), .string (⟨#[]⟩ : ByteArray)]) ?_ 1 _ rfl; (with_reducible repeat (first | refine blk_drewN ?_ _ | refine blk_drew ?_ | refine blk_alloc ?_ _)); refine blk_put (cs := #[.string (⟨#[]⟩ : ByteArray), .string (⟨#[]⟩ : ByteArray)]) ?_ 0 _ rfl; (with_reducible repeat (first | refine blk_drewN ?_ _ | refine blk_drew ?_ | refine blk_alloc ?_ _)); exact BK256.out) Tryd.underlying127 rfl (by kernel_rfl)) rfl ?_
        exact ⟨zz9, zz63⟩
      replace c20 := Bool.eq_false_iff.mpr c20
      subst c20
      rw [if_neg (show ¬ (false = true) by decide)] at H
      simp only [Option.some.injEq, Prod.mk.injEq] at H
      obtain ⟨rfl, rfl, rfl⟩ := H
      have hnb23 := NB268_256.out
      have hnc23 := NB256_268.out
      obtain ⟨hcz24_0, hcz24_1, hfz24_0, hfz24_1⟩ := qc2 BK268.out
      obtain ⟨hcz25_0, hcz25_1, hfz25_0, hfz25_1⟩ := qc2 BK256.out
      go_wp2
      refine bodyPost_ret (results_ct rfl _ _ gb256 127 #[.string t265, .string t266] (0, 0) _ rfl (by (with_reducible repeat (first | refine blk_drewN ?_ _ | refine blk_drew ?_ | refine blk_alloc ?_ _)); refine blk_put (cs := #[.string t265, .string (⟨#[]⟩ : ByteArray)]) ?_ 1 _ rfl; (with_reducible repeat (first | refine blk_drewN ?_ _ | refine blk_drew ?_ | refine blk_alloc ?_ _)); refine blk_put (cs := #[.string (⟨#[]⟩ : ByteArray), .string (⟨#[]⟩ : ByteArray)]) ?_ 0 _ rfl; (with_reducible repeat (first | refine blk_drewN ?_ _ | refine blk_drew ?_ | refine blk_alloc ?_ _)); exact BK256.out) Tryd.underlying127 rfl (by kernel_rfl)) rfl ?_
      exact ⟨zz9, zz63⟩


section
attribute [local go_sem high] run_add_cat run_slice_cat run_slice_cat_h run_slice_cat_l run_slice_cat_all
/-! ### impl_readLog: function 84 -/
def impl_readLog.l0 : Nat → ByteArray → List (S127) → List Int → Int → Option ((List (S127)) × List Int)
  | 0, _, _, _, _ => none
  | k + 1, x0, x2, x3, x4 => if (x2.length : Int) < 60 then (if 0 ≤ x4 then (if x4 ≤ (x0.size : Int) then ((impl_cutRecord.f k (subs x0 (x4 : Int).toNat x0.size) (x2.length : Int)).bind fun bt272 => (if bt272.2.2 = 0 then (some (x2, x3)) else (if x2.length < 4398046511104 then (if x3.length < 17592186044416 then (impl_readLog.l0 k x0 (x2 ++ [(⟨bt272.1, bt272.2.1⟩ : S127)]) (x3 ++ [wrap64 (x4 + bt272.2.2)]) (wrap64 (x4 + bt272.2.2))) else (none)) else (none)))) else (none)) else (none)) else (some (x2, x3))
def impl_readLog.f (k : Nat) (a0 : ByteArray) : Option ((List (S127)) × List Int) := impl_readLog.l0 k a0 ([] : List (S127)) ([] : List Int) 0
set_option maxHeartbeats 8000000 in
set_option maxRecDepth 100000 in
theorem impl_readLog.calls (k : Nat) (a0 : ByteArray) (r1 : List (S127)) (r2 : List Int) (w : World) (hG : Gl w) (h : impl_readLog.f k a0 = some (r1, r2)) :
    Calls Tryd.prog 84 #[.string a0] w fun e w' => ∃ v0_ v1_ : Value, e = .returned (.tuple #[v0_, v1_]) ∧ Kd.R k127 127 w' w.heap.size (fun _ => True) v0_ r1 ∧ Kd.R (Kd.int .i64) 3 w' w.heap.size (fun _ => True) v1_ r2 ∧ Below w.heap.size w w' := by
  have hu127 := Tryd.underlying127
  have HG := Aside0.mk hG
  clear hG
  have HB := Aside0.mk (Below.refl w.heap.size w)
  have H : (impl_readLog.l0 k a0 ([] : List (S127)) ([] : List Int) 0) = some (r1, r2) := h
  clear h
  have H' := Aside0.mk H
  clear H
  go_enter Tryd.func84, Tryd.ntmps84
  go_wp2
  go_loopg [2, 3, 4] k (fun kq v2 v3 v4 w' => ∃ (x2_1 : List (S127)) (x3_1 : List Int) (x4_1 : Int), v4 = .int .i64 x4_1 ∧ Aside0 (impl_readLog.l0 kq a0 x2_1 x3_1 x4_1 = some (r1, r2)) ∧ Aside0 (kq ≤ k) ∧ Aside0 (Kd.R k127 127 w' w.heap.size (fun _ => True) v2 x2_1) ∧ Aside0 (Kd.R (Kd.int .i64) 3 w' w.heap.size (fun _ => True) v3 x3_1) ∧ Aside0 (Below w.heap.size w w'))
  case atStart => exact ⟨(([] : List (S127))), (([] : List Int)), (0), zz4, H', ⟨Nat.le_refl _⟩, ⟨zz22⟩, ⟨zz22⟩, ⟨zz20⟩⟩
  case round =>
    clear H'
    obtain ⟨x2_1, x3_1, x4_1, rfl, HA, HK1, HO_2, HO_3, HB⟩ := hrel
    cases gk with
    | zero => exact absurd HA.out (by simp [impl_readLog.l0])
    | succ k1 =>
      have H := HA.out
      clear HA
      simp only [impl_readLog.l0] at H
      by_cases c2 : (x2_1.length : Int) < 60
      rotate_left
      · rw [if_neg c2] at H
        have c2b0 := decide_eq_false c2
        have c2b1 : decide (x2_1.length < 60) = false := decide_eq_false (by omega)
        clear c2
        simp only [Option.some.injEq, Prod.mk.injEq] at H
        obtain ⟨rfl, rfl⟩ := H
        obtain ⟨Ao19, co19, eo19⟩ := Kd.R_slice HO_2.out
        subst eo19
        go_wp2
        go_ret2
        exact ⟨_, _, zz9, by (with_reducible repeat (first | apply Kd.R_alloc | apply Kd.R_drewN | apply Kd.R_drew)); exact HO_2.out, by (with_reducible repeat (first | apply Kd.R_alloc | apply Kd.R_drewN | apply Kd.R_drew)); exact HO_3.out, zz20⟩
      rw [if_pos c2] at H
      have c2b0 := decide_eq_true c2
      have c2b1 : decide (x2_1.length < 60) = true := decide_eq_true (by omega)
      clear c2
      by_cases c3 : 0 ≤ x4_1
      rotate_left
      · rw [if_neg c3] at H
        exact absurd H (by simp)
      rw [if_pos c3] at H
      have c3b0 := eq_true c3
      have c3b1 := decide_eq_true c3
      clear c3
      by_cases c4 : x4_1 ≤ (a0.size : Int)
      rotate_left
      · rw [if_neg c4] at H
        exact absurd H (by simp)
      rw [if_pos c4] at H
      have c4b0 := eq_true c4
      have c4b1 := decide_eq_true c4
      clear c4
      replace H := Option.bind_eq_some_iff.mp H
      obtain ⟨⟨t272, t273, t274⟩, A50, H⟩ := H
      (try dsimp only at H)
      have A5 := Aside0.mk A50
      clear A50
      by_cases c6 : t274 = 0
      · rw [if_pos c6] at H
        have c6b0 := beq_iff_eq.mpr c6
        have c6b1 := bne_eq_false_iff_eq.mpr c6
        clear c6
        simp only [Option.some.injEq, Prod.mk.injEq] at H
        obtain ⟨rfl, rfl⟩ := H
        obtain ⟨Ao7, co7, eo7⟩ := Kd.R_slice HO_2.out
        subst eo7
        go_wp2_with (first | ((with_reducible refine gate_callee (f := 92) rfl ?_); refine qcall 16 Tryd.func92 rfl #[.string (subs a0 (x4_1 : Int).toNat a0.size), .int .i64 (x2_1.length : Int)] ?_; (with_reducible refine (impl_cutRecord.calls k1 (subs a0 (x4_1 : Int).toNat a0.size) (x2_1.length : Int) t272 t273 t274 _ ?side1 A5.out).mono ?_); (case side1 => exact zz86); rintro e w8 ⟨rfl, hb⟩; refine ⟨_, rfl, ?_⟩; refine qs3 (Kd.R_below (qr HO_2.out) hb) (Kd.R_below (qr HO_3.out) hb) (below_step zz20 hb) ?_; clear HO_2 HO_3 HB; intro HO_2 HO_3 HB; (try clear hb); (try clear hb2); (try clear hk); (try clear hi)) | ((with_reducible refine gate_dst (N := 5) rfl ?_); refine qbox (N := 5) (cs := #[.string (⟨#[]⟩ : ByteArray), .string (⟨#[]⟩ : ByteArray)]) (t := 127) ?_; intro gb275 hg w9 hbox hb; refine qs6 (Kd.R_below (Kd.R_elderB (qr HO_2.out) gb275 (Nat.le_of_eq hg.symm)) hb) (Kd.R_below (qr HO_3.out) hb) (below_step zz20 hb) (hbox) ((zz87 : w.heap.size ≤ gb275)) ((zz87 : w.heap.size ≤ gb275)) ?_; clear HO_2 HO_3 HB; intro HO_2 HO_3 HB BK275 GW275 GE275; clear hb hbox hg; obtain ⟨hcz10_0, hcz10_1, hfz10_0, hfz10_1⟩ := qc2 BK275.out))
        go_ret2
        exact ⟨_, _, zz9, by (with_reducible repeat (first | apply Kd.R_alloc | apply Kd.R_drewN | apply Kd.R_drew)); exact Kd.R_mono (Kd.R_far (p := ⟨gb275, 1, none⟩) (Kd.R_far (p := ⟨gb275, 0, none⟩) (Kd.R_mono HO_2.out (fun k_ hk => (⟨hk, hk.2⟩ : _ ∧ k_ ≠ gb275))) (fun _ hk => hk.2) (.string t272)) (fun _ hk => hk.2) (.string t273)) (fun _ hk => trivial), by (with_reducible repeat (first | apply Kd.R_alloc | apply Kd.R_drewN | apply Kd.R_drew)); exact Kd.R_mono (Kd.R_far (p := ⟨gb275, 1, none⟩) (Kd.R_far (p := ⟨gb275, 0, none⟩) (Kd.R_types HO_3.out BK275.out (by decide)) (fun _ hk => hk.2) (.string t272)) (fun _ hk => hk.2) (.string t273)) (fun _ hk => trivial), zz39⟩
      rw [if_neg c6] at H
      have c6b0 := beq_eq_false_iff_ne.mpr c6
      have c6b1 := bne_iff_ne.mpr c6
      by_cases c11 : x2_1.length < 4398046511104
      rotate_left
      · rw [if_neg c11] at H
        exact absurd H (by simp)
      rw [if_pos c11] at H
      have LMc11 := Aside0.mk c11
      clear c11
      obtain ⟨y276, hy276⟩ : ∃ y_ : List (S127), y_ = (x2_1 ++ [(⟨t272, t273⟩ : S127)]) := ⟨_, rfl⟩
      replace H : (if x3_1.length < 17592186044416 then (impl_readLog.l0 k1 a0 y276 (x3_1 ++ [wrap64 (x4_1 + t274)]) (wrap64 (x4_1 + t274))) else (none)) = some (r1, r2) := by first | (rw [hy276]; with_reducible exact H) | (have H2_ := (Option.bind_some _ _).symm.trans H; rw [hy276]; with_reducible exact H2_) | (have H2_ := (Option.bind_some _ _).symm.trans H; with_reducible exact H2_) | with_reducible exact H | (rw [hy276]; exact H) | exact H
      have Ny276 := Aside0.mk hy276
      clear hy276
      by_cases c12 : x3_1.length < 17592186044416
      rotate_left
      · rw [if_neg c12] at H
        exact absurd H (by simp)
      rw [if_pos c12] at H
      have LMc12 := Aside0.mk c12
      clear c12
      obtain ⟨y279, hy279⟩ : ∃ y_ : List Int, y_ = (x3_1 ++ [wrap64 (x4_1 + t274)]) := ⟨_, rfl⟩
      replace H : (impl_readLog.l0 k1 a0 y276 y279 (wrap64 (x4_1 + t274))) = some (r1, r2) := by first | (rw [hy279]; with_reducible exact H) | (have H2_ := (Option.bind_some _ _).symm.trans H; rw [hy279]; with_reducible exact H2_) | (have H2_ := (Option.bind_some _ _).symm.trans H; with_reducible exact H2_) | with_reducible exact H | (rw [hy279]; exact H) | exact H
      have Ny279 := Aside0.mk hy279
      clear hy279
      have H' := Aside0.mk H
      clear H
      obtain ⟨Ao13, co13, eo13⟩ := Kd.R_slice HO_2.out
      subst eo13
      go_wp2_with (first | ((with_reducible refine gate_callee (f := 92) rfl ?_); refine qcall 16 Tryd.func92 rfl #[.string (subs a0 (x4_1 : Int).toNat a0.size), .int .i64 (x2_1.length : Int)] ?_; (with_reducible refine (impl_cutRecord.calls k1 (subs a0 (x4_1 : Int).toNat a0.size) (x2_1.length : Int) t272 t273 t274 _ ?side1 A5.out).mono ?_); (case side1 => exact zz86); rintro e w14 ⟨rfl, hb⟩; refine ⟨_, rfl, ?_⟩; refine qs3 (Kd.R_below (qr HO_2.out) hb) (Kd.R_below (qr HO_3.out) hb) (below_step zz20 hb) ?_; clear HO_2 HO_3 HB; intro HO_2 HO_3 HB; (try clear hb); (try clear hb2); (try clear hk); (try clear hi)) | ((with_reducible refine gate_dst (N := 5) rfl ?_); refine qbox (N := 5) (cs := #[.string (⟨#[]⟩ : ByteArray), .string (⟨#[]⟩ : ByteArray)]) (t := 127) ?_; intro gb275 hg w15 hbox hb; refine qs6 (Kd.R_below (Kd.R_elderB (qr HO_2.out) gb275 (Nat.le_of_eq hg.symm)) hb) (Kd.R_below (qr HO_3.out) hb) (below_step zz20 hb) (hbox) ((zz87 : w.heap.size ≤ gb275)) ((zz87 : w.heap.size ≤ gb275)) ?_; clear HO_2 HO_3 HB; intro HO_2 HO_3 HB BK275 GW275 GE275; clear hb hbox hg; obtain ⟨hcz16_0, hcz16_1, hfz16_0, hfz16_1⟩ := qc2 BK275.out) | ((with_reducible refine gate_builtin (b := .append) (xs := #[.tmp 24, .tmp 26]) rfl ?_); at_builtin; refine Kd.R_append k127 (w0 := w) w.heap.size rfl (.tmp 24) (.tmp 26) 102 127 (.agg #[(.string ⟨#[]⟩), (.string ⟨#[]⟩)]) 32 rfl Tryd.underlying102 info127 rfl (by decide) (by omega) (.slice Ao13 x2_1.length co13) x2_1 (⟨t272, t273⟩ : S127) [.string t272, .string t273] (fun k_ => k_ ≠ gb275) (fun _ => False) rfl zz3 ?aP (fun _ hk => hk.elim) ?aF ?aO ?aB ?aS ?aL ?_; (case aP => exact k127_mkM _ _ _ (⟨t272, t273⟩ : S127)); (case aB => exact zz39); (case aF => exact (fun k_ hk => Kd.freshB (g := gb275) (o := .cells #[.string t272, .string t273] 127 (0, 0)) zz77 k_ hk)); (case aO => exact (by (with_reducible repeat (first | apply Kd.R_alloc | apply Kd.R_drewN | apply Kd.R_drew)); exact Kd.R_mono (Kd.R_far (p := ⟨gb275, 1, none⟩) (Kd.R_far (p := ⟨gb275, 0, none⟩) (Kd.R_mono HO_2.out (fun k_ hk => (⟨hk, hk.2⟩ : _ ∧ k_ ≠ gb275))) (fun _ hk => hk.2) (.string t272)) (fun _ hk => hk.2) (.string t273)) (fun _ hk => hk.1.2))); (case aS => exact (below_size zz39)); (case aL => have := LMc11.out; omega); intro v277 w17 ho hb hg hat; rw [← Ny276.out] at ho; refine qs4 (Kd.R_over' (by (with_reducible repeat (first | apply Kd.R_alloc | apply Kd.R_drewN | apply Kd.R_drew)); exact (Kd.R_mono (Kd.R_far (p := ⟨gb275, 1, none⟩) (Kd.R_far (p := ⟨gb275, 0, none⟩) (Kd.R_types HO_3.out BK275.out (by decide)) (fun _ hk => hk.2) (.string t272)) (fun _ hk => hk.2) (.string t273)) (fun _ h_ => h_.1))) (Kd.R_typed (by (with_reducible repeat (first | apply Kd.R_alloc | apply Kd.R_drewN | apply Kd.R_drew)); exact (Kd.R_mono (Kd.R_far (p := ⟨gb275, 1, none⟩) (Kd.R_far (p := ⟨gb275, 0, none⟩) (Kd.R_mono HO_2.out (fun k_ hk => (⟨hk, hk.2⟩ : _ ∧ k_ ≠ gb275))) (fun _ hk => hk.2) (.string t272)) (fun _ hk => hk.2) (.string t273)) (fun _ h_ => h_.1)))) (by decide) hg) (blk_grown (g := gb275) (o := .cells #[.string t272, .string t273] 127 (0, 0)) zz77 hg (Kd.R_away HO_2.out (fun _ hk => hk.2))) (hb) (ho) ?_; clear HO_3 BK275 HB HO_2; intro HO_3 BK275 HB HO278; clear ho hb hg hat) | ((with_reducible refine gate_builtin (b := .append) (xs := #[.tmp 28, .tmp 30]) rfl ?_); at_builtin; refine Kd.R_append (Kd.int .i64) (w0 := w) w.heap.size rfl (.tmp 28) (.tmp 30) 28 3 (.int .i64 0) 8 rfl Tryd.underlying28 info3 rfl (by decide) (by omega) u3 x3_1 (wrap64 (x4_1 + t274)) [.int .i64 (wrap64 (x4_1 + t274))] (fun _ => True) (fun _ => False) rfl rfl ?aP (fun _ hk => hk.elim) ?aF ?aO ?aB ?aS ?aL ?_; (case aP => exact rfl); (case aB => exact zz39); (case aF => exact (fun _ _ => trivial)); (case aO => exact (qr HO_3.out)); (case aS => exact (below_size zz39)); (case aL => have := LMc12.out; omega); intro v280 w18 ho hb hg hat; rw [← Ny279.out] at ho; refine qs4 (blk_grown (g := gb275) (o := .cells #[.string t272, .string t273] 127 (0, 0)) (qb BK275.out) hg (Kd.R_ne HO_3.out BK275.out (by decide))) (Kd.R_over' (qr HO278.out) (Kd.R_typed (qr HO_3.out)) (by decide) hg) (hb) (ho) ?_; clear BK275 HO278 HB HO_3; intro BK275 HO278 HB HO281; clear ho hb hg hat))
      go_roundg k1
      case measure => have := HK1.out; omega
      case rel => exact ⟨(y276), (y279), (wrap64 (x4_1 + t274)), zz4, H', ⟨zz1⟩, ⟨by (with_reducible repeat (first | apply Kd.R_alloc | apply Kd.R_drewN | apply Kd.R_drew)); exact Kd.R_mono HO278.out (fun _ hk => trivial)⟩, ⟨by (with_reducible repeat (first | apply Kd.R_alloc | apply Kd.R_drewN | apply Kd.R_drew)); exact HO281.out⟩, ⟨zz39⟩⟩

end

end Go.Proofs.YtneaeaoemhghdaaDoor.G

-- Written by a program of this session (wip/pd.py), which calls the kit's print; externals' contracts by hand.
namespace Go.Proofs.YtneaeaoemhghdaaDoor.G
open Go.Proofs.YtneaeaoemhghdaaDoorQ
open Go.RowKit Go.Proofs.YtneaeaoemhghdaaDoorW.PrintWords Go.Proofs.YtneaeaoemhghdaaDoorW.PrintLast Go.Proofs.YtneaeaoemhghdaaDoorW.PrintMore
attribute [local go_sem] max2_int min2_int max_two min_two max_three min_three max_four min_four   -- for this text's walks alone
set_option linter.unusedVariables false
set_option linter.unusedSimpArgs false

section
attribute [local go_sem high] run_add_cat run_slice_cat run_slice_cat_h run_slice_cat_l run_slice_cat_all
/-! ### impl_Log_records: function 73 -/
def impl_Log_records.l0 : Nat → List (S127) → Int → Bool → List Int → Int → Int → ByteArray → ByteArray → Int → Option ((List (S127)) × Bool)
  | 0, _, _, _, _, _, _, _, _, _ => none
  | k + 1, x4, x6, x7, x30, x31, x32, x283000, x283001, x283002 => if x32 < x31 then (if 0 ≤ x32 then (if x32 < (x30.length : Int) then (if x7 = true then (impl_Log_records.l0 k x4 (rd x30 x32) true x30 x31 (wrap64 (x32 + 1)) x283000 x283001 x283002) else (impl_Log_records.l0 k x4 (rd x30 x32) ((rd x30 x32) == (x283000.size : Int)) x30 x31 (wrap64 (x32 + 1)) x283000 x283001 x283002)) else (none)) else (none)) else (if x7 = true then (if x6 = (wrap64 ((x283000.size : Int) + (x283001.size : Int))) then (some (x4, (x283002 == (x4.length : Int)))) else (some (x4, false))) else (some (x4, false)))
def impl_Log_records.f (k : Nat) (a0_0 : ByteArray) (a0_1 : ByteArray) (a0_2 : Int) : Option ((List (S127)) × Bool) := if (wrap64 ((a0_0.size : Int) + (a0_1.size : Int))) > 30000 then (some (([] : List (S127)), false)) else (if a0_0.size + a0_1.size ≤ 9223372036854775807 then ((impl_readLog.f k (cat a0_0 a0_1)).bind fun bt283 => (impl_Log_records.l0 k bt283.1 0 (a0_0.toList == ([] : List UInt8)) bt283.2 (bt283.2.length : Int) 0 a0_0 a0_1 a0_2)) else (none))
set_option maxHeartbeats 8000000 in
set_option maxRecDepth 100000 in
theorem impl_Log_records.calls (k : Nat) (a0_0 : ByteArray) (a0_1 : ByteArray) (a0_2 : Int) (r1 : List (S127)) (r2 : Bool) (w : World) (hG : Gl w) (h : impl_Log_records.f k a0_0 a0_1 a0_2 = some (r1, r2)) :
    Calls Tryd.prog 73 #[.agg #[.string a0_0, .string a0_1, .int .i64 a0_2]] w fun e w' => ∃ v0_ : Value, e = .returned (.tuple #[v0_, .bool r2]) ∧ Kd.R k127 127 w' w.heap.size (fun _ => True) v0_ r1 ∧ Below w.heap.size w w' := by
  have hu52 := Tryd.underlying52
  have HG := Aside0.mk hG
  clear hG
  have HB := Aside0.mk (Below.refl w.heap.size w)
  unfold impl_Log_records.f at h
  have H := h
  clear h
  by_cases c2 : (wrap64 ((a0_0.size : Int) + (a0_1.size : Int))) > 30000
  · rw [if_pos c2] at H
    have c2b0 := decide_eq_true c2
    clear c2
    simp only [Option.some.injEq, Prod.mk.injEq] at H
    obtain ⟨rfl, rfl⟩ := H
    go_enter Tryd.func73, Tryd.ntmps73
    go_wp2_with (first | ((with_reducible refine gate_dst (N := 1) rfl ?_); (try (refine gate_guard (by rfl) ?_; dsimp only)); refine qbox (N := 1) (cs := #[.string a0_0, .string a0_1, .int .i64 a0_2]) (t := 52) ?_; intro gb282 hg w3 hbox hb; refine qs4 (below_step zz20 hb) (hbox) ((zz87 : w.heap.size ≤ gb282)) ((zz87 : w.heap.size ≤ gb282)) ?_; clear HB; intro HB BK282 GW282 GE282; clear hb hbox hg; obtain ⟨hcz4_0, hcz4_1, hcz4_2, hfz4_0, hfz4_1, hfz4_2⟩ := qc3 BK282.out))
    repeat (go_quiet (first | ((with_reducible refine gate_dst (N := 1) rfl ?_); (try (refine gate_guard (by rfl) ?_; dsimp only)); refine qbox (N := 1) (cs := #[.string a0_0, .string a0_1, .int .i64 a0_2]) (t := 52) ?_; intro gb282 hg w3 hbox hb; refine qs4 (below_step zz20 hb) (hbox) ((zz87 : w.heap.size ≤ gb282)) ((zz87 : w.heap.size ≤ gb282)) ?_; clear HB; intro HB BK282 GW282 GE282; clear hb hbox hg; obtain ⟨hcz4_0, hcz4_1, hcz4_2, hfz4_0, hfz4_1, hfz4_2⟩ := qc3 BK282.out)); try go_wp2_with (first | ((with_reducible refine gate_dst (N := 1) rfl ?_); (try (refine gate_guard (by rfl) ?_; dsimp only)); refine qbox (N := 1) (cs := #[.string a0_0, .string a0_1, .int .i64 a0_2]) (t := 52) ?_; intro gb282 hg w3 hbox hb; refine qs4 (below_step zz20 hb) (hbox) ((zz87 : w.heap.size ≤ gb282)) ((zz87 : w.heap.size ≤ gb282)) ?_; clear HB; intro HB BK282 GW282 GE282; clear hb hbox hg; obtain ⟨hcz4_0, hcz4_1, hcz4_2, hfz4_0, hfz4_1, hfz4_2⟩ := qc3 BK282.out)))
    go_ret2
    exact ⟨_, zz9, zz22, zz25⟩
  rw [if_neg c2] at H
  have c2b0 := decide_eq_false c2
  clear c2
  by_cases c5 : a0_0.size + a0_1.size ≤ 9223372036854775807
  rotate_left
  · rw [if_neg c5] at H
    exact absurd H (by simp)
  rw [if_pos c5] at H
  have c5b0 := eq_true c5
  have c5b1 := decide_eq_true c5
  try have c5b2 := eq_false (Nat.not_lt.2 c5)
  clear c5
  replace H := Option.bind_eq_some_iff.mp H
  obtain ⟨⟨t283, t284⟩, A60, H⟩ := H
  (try dsimp only at H)
  have A6 := Aside0.mk A60
  clear A60
  have H' := Aside0.mk H
  clear H
  go_enter Tryd.func73, Tryd.ntmps73
  go_wp2_with (first | ((with_reducible refine gate_dst (N := 1) rfl ?_); (try (refine gate_guard (by rfl) ?_; dsimp only)); refine qbox (N := 1) (cs := #[.string a0_0, .string a0_1, .int .i64 a0_2]) (t := 52) ?_; intro gb282 hg w7 hbox hb; refine qs4 (below_step zz20 hb) (hbox) ((zz87 : w.heap.size ≤ gb282)) ((zz87 : w.heap.size ≤ gb282)) ?_; clear HB; intro HB BK282 GW282 GE282; clear hb hbox hg; obtain ⟨hcz8_0, hcz8_1, hcz8_2, hfz8_0, hfz8_1, hfz8_2⟩ := qc3 BK282.out) | (go_at_call 84; (with_reducible refine (impl_readLog.calls k (cat a0_0 a0_1) t283 t284 _ ?side1 A6.out).mono ?_); (case side1 => exact Gl.below HG.out zz25); rintro e w9 ⟨v285, v287, rfl, ho0, ho1, hb⟩; refine qs4 (Kd.R_lower ho0 (below_size zz25)) (Kd.R_lower ho1 (below_size zz25)) (blk_below (qb BK282.out) hb) (below_step zz25 hb) ?_; clear BK282 HB; intro HO286 HO288 BK282 HB; (try clear hb); (try clear hb2); (try clear hk); (try clear hi); (try clear ho0); (try clear ho1); obtain ⟨hcz10_0, hcz10_1, hcz10_2, hfz10_0, hfz10_1, hfz10_2⟩ := qc3 BK282.out; obtain ⟨Ao11, co11, eo11⟩ := Kd.R_slice HO288.out; subst eo11))
  repeat (go_quiet (first | ((with_reducible refine gate_dst (N := 1) rfl ?_); (try (refine gate_guard (by rfl) ?_; dsimp only)); refine qbox (N := 1) (cs := #[.string a0_0, .string a0_1, .int .i64 a0_2]) (t := 52) ?_; intro gb282 hg w7 hbox hb; refine qs4 (below_step zz20 hb) (hbox) ((zz87 : w.heap.size ≤ gb282)) ((zz87 : w.heap.size ≤ gb282)) ?_; clear HB; intro HB BK282 GW282 GE282; clear hb hbox hg; obtain ⟨hcz8_0, hcz8_1, hcz8_2, hfz8_0, hfz8_1, hfz8_2⟩ := qc3 BK282.out) | (go_at_call 84; (with_reducible refine (impl_readLog.calls k (cat a0_0 a0_1) t283 t284 _ ?side1 A6.out).mono ?_); (case side1 => exact Gl.below HG.out zz25); rintro e w9 ⟨v285, v287, rfl, ho0, ho1, hb⟩; refine qs4 (Kd.R_lower ho0 (below_size zz25)) (Kd.R_lower ho1 (below_size zz25)) (blk_below (qb BK282.out) hb) (below_step zz25 hb) ?_; clear BK282 HB; intro HO286 HO288 BK282 HB; (try clear hb); (try clear hb2); (try clear hk); (try clear hi); (try clear ho0); (try clear ho1); obtain ⟨hcz10_0, hcz10_1, hcz10_2, hfz10_0, hfz10_1, hfz10_2⟩ := qc3 BK282.out; obtain ⟨Ao11, co11, eo11⟩ := Kd.R_slice HO288.out; subst eo11)); try go_wp2_with (first | ((with_reducible refine gate_dst (N := 1) rfl ?_); (try (refine gate_guard (by rfl) ?_; dsimp only)); refine qbox (N := 1) (cs := #[.string a0_0, .string a0_1, .int .i64 a0_2]) (t := 52) ?_; intro gb282 hg w7 hbox hb; refine qs4 (below_step zz20 hb) (hbox) ((zz87 : w.heap.size ≤ gb282)) ((zz87 : w.heap.size ≤ gb282)) ?_; clear HB; intro HB BK282 GW282 GE282; clear hb hbox hg; obtain ⟨hcz8_0, hcz8_1, hcz8_2, hfz8_0, hfz8_1, hfz8_2⟩ := qc3 BK282.out) | (go_at_call 84; (with_reducible refine (impl_readLog.calls k (cat a0_0 a0_1) t283 t284 _ ?side1 A6.out).mono ?_); (case side1 => exact Gl.below HG.out zz25); rintro e w9 ⟨v285, v287, rfl, ho0, ho1, hb⟩; refine qs4 (Kd.R_lower ho0 (below_size zz25)) (Kd.R_lower ho1 (below_size zz25)) (blk_below (qb BK282.out) hb) (below_step zz25 hb) ?_; clear BK282 HB; intro HO286 HO288 BK282 HB; (try clear hb); (try clear hb2); (try clear hk); (try clear hi); (try clear ho0); (try clear ho1); obtain ⟨hcz10_0, hcz10_1, hcz10_2, hfz10_0, hfz10_1, hfz10_2⟩ := qc3 BK282.out; obtain ⟨Ao11, co11, eo11⟩ := Kd.R_slice HO288.out; subst eo11)))
  go_loopg [6, 7, 32] k (fun kq v6 v7 v32 w' => ∃ (x6_1 : Int) (x7_1 : Bool) (x32_1 : Int), v6 = .int .i64 x6_1 ∧ v7 = .bool x7_1 ∧ v32 = .int .i64 x32_1 ∧ Aside0 (impl_Log_records.l0 kq t283 x6_1 x7_1 t284 (t284.length : Int) x32_1 a0_0 a0_1 a0_2 = some (r1, r2)) ∧ Aside0 (kq ≤ k) ∧ Aside0 (Kd.R k127 127 w' w.heap.size (fun _ => True) v285 t283) ∧ Aside0 (Kd.R (Kd.int .i64) 3 w' w.heap.size (fun _ => True) (.slice Ao11 t284.length co11) t284) ∧ Aside0 (w'.heap[gb282]? = some (.cells #[.string a0_0, .string a0_1, .int .i64 a0_2] 52 (0, 0))) ∧ Aside0 (Below w.heap.size w w'))
  case atStart => exact ⟨(0), ((a0_0.toList == ([] : List UInt8))), (0), zz4, zz4, zz4, H', ⟨Nat.le_refl _⟩, ⟨by (with_reducible repeat (first | apply Kd.R_alloc | apply Kd.R_drewN | apply Kd.R_drew)); exact HO286.out⟩, ⟨by (with_reducible repeat (first | apply Kd.R_alloc | apply Kd.R_drewN | apply Kd.R_drew)); exact HO288.out⟩, ⟨zz19⟩, ⟨zz25⟩⟩
  case round =>
    clear H'
    try clear c2
    try clear c2b0
    try clear p2
    try clear c5
    try clear c5b0
    try clear c5b1
    try clear c5b2
    try clear p6
    try clear c7
    try clear hcz10_0
    try clear hcz10_1
    try clear hcz10_2
    try clear hcz4_0
    try clear hcz4_1
    try clear hcz4_2
    try clear hcz8_0
    try clear hcz8_1
    try clear hcz8_2
    try clear hfz10_0
    try clear hfz10_1
    try clear hfz10_2
    try clear hfz4_0
    try clear hfz4_1
    try clear hfz4_2
    try clear hfz8_0
    try clear hfz8_1
    try clear hfz8_2
    obtain ⟨x6_1, x7_1, x32_1, rfl, rfl, rfl, HA, HK1, HO_4, HO_30, BK282, HB⟩ := hrel
    cases gk with
    | zero => exact absurd HA.out (by simp [impl_Log_records.l0])
    | succ k1 =>
      have H := HA.out
      clear HA
      simp only [impl_Log_records.l0] at H
      by_cases c12 : x32_1 < (t284.length : Int)
      rotate_left
      · rw [if_neg c12] at H
        have c12b0 := decide_eq_false c12
        clear c12
        by_cases c17 : x7_1 = true
        rotate_left
        · replace c17 := Bool.eq_false_iff.mpr c17
          subst c17
          rw [if_neg (show ¬ (false = true) by decide)] at H
          simp only [Option.some.injEq, Prod.mk.injEq] at H
          obtain ⟨rfl, rfl⟩ := H
          go_wp2
          repeat (go_quiet (fail); try go_wp2)
          go_ret2
          exact ⟨_, zz9, zz10, zz25⟩
        subst c17
        rw [if_pos rfl] at H
        by_cases c18 : x6_1 = (wrap64 ((a0_0.size : Int) + (a0_1.size : Int)))
        rotate_left
        · rw [if_neg c18] at H
          have c18b0 := beq_eq_false_iff_ne.mpr c18
          have c18b1 := bne_iff_ne.mpr c18
          simp only [Option.some.injEq, Prod.mk.injEq] at H
          obtain ⟨rfl, rfl⟩ := H
          obtain ⟨hcz21_0, hcz21_1, hcz21_2, hfz21_0, hfz21_1, hfz21_2⟩ := qc3 BK282.out
          go_wp2
          repeat (go_quiet (fail); try go_wp2)
          go_ret2
          exact ⟨_, zz9, zz10, zz25⟩
        rw [if_pos c18] at H
        have c18b0 := beq_iff_eq.mpr c18
        have c18b1 := bne_eq_false_iff_eq.mpr c18
        clear c18
        simp only [Option.some.injEq, Prod.mk.injEq] at H
        obtain ⟨rfl, rfl⟩ := H
        obtain ⟨hcz19_0, hcz19_1, hcz19_2, hfz19_0, hfz19_1, hfz19_2⟩ := qc3 BK282.out
        obtain ⟨Ao20, co20, eo20⟩ := Kd.R_slice HO_4.out
        subst eo20
        go_wp2
        repeat (go_quiet (fail); try go_wp2)
        go_ret2
        exact ⟨_, zz9, zz10, zz25⟩
      rw [if_pos c12] at H
      have c12b0 := decide_eq_true c12
      clear c12
      by_cases c13 : 0 ≤ x32_1
      rotate_left
      · rw [if_neg c13] at H
        exact absurd H (by simp)
      rw [if_pos c13] at H
      have c13b0 := decide_eq_true c13
      clear c13
      by_cases c14 : x32_1 < (t284.length : Int)
      rotate_left
      · rw [if_neg c14] at H
        exact absurd H (by simp)
      rw [if_pos c14] at H
      have c14b0 := decide_eq_true c14
      clear c14
      by_cases c15 : x7_1 = true
      · subst c15
        rw [if_pos rfl] at H
        have H' := Aside0.mk H
        clear H
        have p289 : 0 ≤ (x32_1 : Int) := of_decide_eq_true zz5
        have q289 : x32_1 < (t284.length : Int) := of_decide_eq_true zz5
        obtain ⟨ad289, e289, hx289_0⟩ := Kd.at_int (Kd.R_reads' HO_30.out).2.2 x32_1 p289 q289
        cases e289
        replace p289 := eq_true p289
        replace q289 := eq_true q289
        go_wp2
        repeat (go_quiet (fail); try go_wp2)
        go_roundg k1
        case measure => have := HK1.out; omega
        case rel => exact ⟨(rd t284 x32_1), (true), (wrap64 (x32_1 + 1)), zz4, zz4, zz4, H', ⟨zz1⟩, ⟨zz10⟩, ⟨by (with_reducible repeat (first | apply Kd.R_alloc | apply Kd.R_drewN | apply Kd.R_drew)); exact HO_30.out⟩, ⟨zz19⟩, ⟨zz25⟩⟩
      replace c15 := Bool.eq_false_iff.mpr c15
      subst c15
      rw [if_neg (show ¬ (false = true) by decide)] at H
      have H' := Aside0.mk H
      clear H
      have p289 : 0 ≤ (x32_1 : Int) := of_decide_eq_true zz5
      have q289 : x32_1 < (t284.length : Int) := of_decide_eq_true zz5
      obtain ⟨ad289, e289, hx289_0⟩ := Kd.at_int (Kd.R_reads' HO_30.out).2.2 x32_1 p289 q289
      cases e289
      replace p289 := eq_true p289
      replace q289 := eq_true q289
      obtain ⟨hcz16_0, hcz16_1, hcz16_2, hfz16_0, hfz16_1, hfz16_2⟩ := qc3 BK282.out
      go_wp2
      repeat (go_quiet (fail); try go_wp2)
      go_roundg k1
      case measure => have := HK1.out; omega
      case rel => exact ⟨(rd t284 x32_1), (((rd t284 x32_1) == (a0_0.size : Int))), (wrap64 (x32_1 + 1)), zz4, zz4, zz4, H', ⟨zz1⟩, ⟨zz10⟩, ⟨by (with_reducible repeat (first | apply Kd.R_alloc | apply Kd.R_drewN | apply Kd.R_drew)); exact HO_30.out⟩, ⟨zz19⟩, ⟨zz25⟩⟩

end

/-! ### impl_IsValidLog: function 49 -/
def impl_IsValidLog.f (k : Nat) (a0_0 : ByteArray) (a0_1 : ByteArray) (a0_2 : Int) : Option (Bool) := (impl_Log_records.f k a0_0 a0_1 a0_2).bind fun bt291 => (some bt291.2)
set_option maxHeartbeats 8000000 in
set_option maxRecDepth 100000 in
theorem impl_IsValidLog.calls (k : Nat) (a0_0 : ByteArray) (a0_1 : ByteArray) (a0_2 : Int) (r : Bool) (w : World) (hG : Gl w) (h : impl_IsValidLog.f k a0_0 a0_1 a0_2 = some r) :
    Calls Tryd.prog 49 #[.agg #[.string a0_0, .string a0_1, .int .i64 a0_2]] w fun e w' => e = .returned (.bool r) ∧ Below w.heap.size w w' := by
  have hu52 := Tryd.underlying52
  have HG := Aside0.mk hG
  clear hG
  have HB := Aside0.mk (Below.refl w.heap.size w)
  have H : ((impl_Log_records.f k a0_0 a0_1 a0_2).bind fun bt291 => (some bt291.2)) = some r := h
  clear h
  replace H := Option.bind_eq_some_iff.mp H
  obtain ⟨⟨t291, t294⟩, A20, H⟩ := H
  replace H : (some t294) = some r := H
  have A2 := Aside0.mk A20
  clear A20
  obtain rfl := Option.some.inj H
  go_enter Tryd.func49, Tryd.ntmps49
  go_wp2_with (first | ((with_reducible refine gate_dst (N := 1) rfl ?_); refine qbox (N := 1) (cs := #[.string a0_0, .string a0_1, .int .i64 a0_2]) (t := 52) ?_; intro gb290 hg w3 hbox hb; refine qs4 (below_step zz20 hb) (hbox) ((zz87 : w.heap.size ≤ gb290)) ((zz87 : w.heap.size ≤ gb290)) ?_; clear HB; intro HB BK290 GW290 GE290; clear hb hbox hg; obtain ⟨hcz4_0, hcz4_1, hcz4_2, hfz4_0, hfz4_1, hfz4_2⟩ := qc3 BK290.out) | ((with_reducible refine gate_callee (f := 73) rfl ?_); refine qcall 7 Tryd.func73 rfl #[.agg #[.string a0_0, .string a0_1, .int .i64 a0_2]] ?_; (with_reducible refine (impl_Log_records.calls k a0_0 a0_1 a0_2 t291 t294 _ ?side1 A2.out).mono ?_); (case side1 => exact Gl.below HG.out zz44); rintro e w5 ⟨v292, rfl, ho0, hb⟩; refine ⟨_, rfl, ?_⟩; refine qs3 (Kd.R_lower ho0 (below_size zz44)) (blk_below (qb BK290.out) hb) (below_step zz44 hb) ?_; clear BK290 HB; intro HO293 BK290 HB; (try clear hb); (try clear hb2); (try clear hk); (try clear hi); (try clear ho0)))
  go_ret
  exact ⟨zz9, zz44⟩


/-! ### impl_IsValidConsole: function 27 -/
def impl_IsValidConsole.f (k : Nat) (a0_0 : Int) (a0_1 : Int) (l0_2 : List (S62)) (a0_3 : Int) (a0_4 : ByteArray) (a0_5 : ByteArray) (a0_6 : Int) : Option (Bool) := (impl_IsShop.f k a0_0 a0_1 l0_2 a0_3).bind fun t296 => (if t296 = true then ((impl_IsValidLog.f k a0_4 a0_5 a0_6).bind fun t297 => (some t297)) else (some false))
set_option maxHeartbeats 8000000 in
set_option maxRecDepth 100000 in
theorem impl_IsValidConsole.calls (k : Nat) (a0_0 : Int) (a0_1 : Int) (A0_2 : Option Addr) (c0_2 : Nat) (l0_2 : List (S62)) (a0_3 : Int) (a0_4 : ByteArray) (a0_5 : ByteArray) (a0_6 : Int) (r : Bool) (w : World) (hr0_2 : Kd.C k62 w A0_2 l0_2.length l0_2) (hc0_2 : l0_2.length ≤ c0_2) (hG : Gl w) (h : impl_IsValidConsole.f k a0_0 a0_1 l0_2 a0_3 a0_4 a0_5 a0_6 = some r) :
    Calls Tryd.prog 27 #[.agg #[.int .i64 a0_0, .int .i64 a0_1, .slice A0_2 l0_2.length c0_2, .int .i64 a0_3, .string a0_4, .string a0_5, .int .i64 a0_6]] w fun e w' => e = .returned (.bool r) ∧ Below w.heap.size w w' := by
  have hu54 := Tryd.underlying54
  have hu26 := Tryd.underlying26
  have hu52 := Tryd.underlying52
  have HR0_2 := Aside0.mk hr0_2
  have HC0_2 := Aside0.mk hc0_2
  clear hr0_2 hc0_2
  have HG := Aside0.mk hG
  clear hG
  have HB := Aside0.mk (Below.refl w.heap.size w)
  unfold impl_IsValidConsole.f at h
  have H := h
  clear h
  replace H := Option.bind_eq_some_iff.mp H
  obtain ⟨t296, A20, H⟩ := H
  (try dsimp only at H)
  have A2 := Aside0.mk A20
  clear A20
  by_cases c3 : t296 = true
  rotate_left
  · replace c3 := Bool.eq_false_iff.mpr c3
    subst c3
    rw [if_neg (show ¬ (false = true) by decide)] at H
    obtain rfl := Option.some.inj H
    go_enter Tryd.func27, Tryd.ntmps27
    go_wp2_with (first | ((with_reducible refine gate_dst (N := 1) rfl ?_); refine qbox (N := 1) (cs := #[.int .i64 a0_0, .int .i64 a0_1, .slice A0_2 l0_2.length c0_2, .int .i64 a0_3, .string a0_4, .string a0_5, .int .i64 a0_6]) (t := 54) ?_; intro gb295 hg w10 hbox hb; refine qs4 (below_step zz20 hb) (hbox) ((zz87 : w.heap.size ≤ gb295)) ((zz87 : w.heap.size ≤ gb295)) ?_; clear HB; intro HB BK295 GW295 GE295; clear hb hbox hg; obtain ⟨hcz11_0, hcz11_1, hcz11_2, hcz11_3, hcz11_4, hcz11_5, hcz11_6, hfz11_0, hfz11_1, hfz11_2, hfz11_3, hfz11_4, hfz11_5, hfz11_6⟩ := qc7 BK295.out) | ((with_reducible refine gate_callee (f := 32) rfl ?_); refine qcall 5 Tryd.func32 rfl #[.agg #[.int .i64 a0_0, .int .i64 a0_1, .slice A0_2 l0_2.length c0_2, .int .i64 a0_3]] ?_; (with_reducible refine (impl_IsShop.calls k a0_0 a0_1 _ _ l0_2 a0_3 false _ ?side1 ?side2 A2.out).mono ?_); (case side1 => exact zz54); (case side2 => exact zz0); rintro e w12 ⟨rfl, hb⟩; refine ⟨_, rfl, ?_⟩; refine qs2 (blk_below (qb BK295.out) hb) (below_step zz40 hb) ?_; clear BK295 HB; intro BK295 HB; (try clear hb); (try clear hb2); (try clear hk); (try clear hi)))
    go_ret
    exact ⟨zz9, zz40⟩
  subst c3
  rw [if_pos rfl] at H
  replace H := Option.bind_eq_some_iff.mp H
  obtain ⟨t297, A40, H⟩ := H
  replace H : (some t297) = some r := H
  have A4 := Aside0.mk A40
  clear A40
  obtain rfl := Option.some.inj H
  go_enter Tryd.func27, Tryd.ntmps27
  go_wp2_with (first | ((with_reducible refine gate_dst (N := 1) rfl ?_); refine qbox (N := 1) (cs := #[.int .i64 a0_0, .int .i64 a0_1, .slice A0_2 l0_2.length c0_2, .int .i64 a0_3, .string a0_4, .string a0_5, .int .i64 a0_6]) (t := 54) ?_; intro gb295 hg w5 hbox hb; refine qs4 (below_step zz20 hb) (hbox) ((zz87 : w.heap.size ≤ gb295)) ((zz87 : w.heap.size ≤ gb295)) ?_; clear HB; intro HB BK295 GW295 GE295; clear hb hbox hg; obtain ⟨hcz6_0, hcz6_1, hcz6_2, hcz6_3, hcz6_4, hcz6_5, hcz6_6, hfz6_0, hfz6_1, hfz6_2, hfz6_3, hfz6_4, hfz6_5, hfz6_6⟩ := qc7 BK295.out) | ((with_reducible refine gate_callee (f := 32) rfl ?_); refine qcall 5 Tryd.func32 rfl #[.agg #[.int .i64 a0_0, .int .i64 a0_1, .slice A0_2 l0_2.length c0_2, .int .i64 a0_3]] ?_; (with_reducible refine (impl_IsShop.calls k a0_0 a0_1 _ _ l0_2 a0_3 true _ ?side1 ?side2 A2.out).mono ?_); (case side1 => exact zz54); (case side2 => exact zz0); rintro e w7 ⟨rfl, hb⟩; refine ⟨_, rfl, ?_⟩; refine qs2 (blk_below (qb BK295.out) hb) (below_step zz40 hb) ?_; clear BK295 HB; intro BK295 HB; (try clear hb); (try clear hb2); (try clear hk); (try clear hi); obtain ⟨hcz8_0, hcz8_1, hcz8_2, hcz8_3, hcz8_4, hcz8_5, hcz8_6, hfz8_0, hfz8_1, hfz8_2, hfz8_3, hfz8_4, hfz8_5, hfz8_6⟩ := qc7 BK295.out) | (go_at_call 49; (with_reducible refine (impl_IsValidLog.calls k a0_4 a0_5 a0_6 t297 _ ?side1 A4.out).mono ?_); (case side1 => exact Gl.below HG.out zz40); rintro e w9 ⟨rfl, hb⟩; refine qs2 (blk_below (qb BK295.out) hb) (below_step zz40 hb) ?_; clear BK295 HB; intro BK295 HB; (try clear hb); (try clear hb2); (try clear hk); (try clear hi)))
  go_ret
  exact ⟨zz9, zz40⟩


/-! ### laws_eqCarpet: function 85 -/
def laws_eqCarpet.f (a0_0 : Int) (a0_1 : Int) (a0_2 : Int) (a0_3 : Int) (a0_4 : Int) (a1_0 : Int) (a1_1 : Int) (a1_2 : Int) (a1_3 : Int) (a1_4 : Int) : Option (Bool) := if a0_0 = a1_0 then (if a0_1 = a1_1 then (if a0_2 = a1_2 then (if a0_3 = a1_3 then (if a0_4 = a1_4 then (some true) else (some false)) else (some false)) else (some false)) else (some false)) else (some false)
set_option maxHeartbeats 8000000 in
set_option maxRecDepth 100000 in
theorem laws_eqCarpet.calls (a0_0 : Int) (a0_1 : Int) (a0_2 : Int) (a0_3 : Int) (a0_4 : Int) (a1_0 : Int) (a1_1 : Int) (a1_2 : Int) (a1_3 : Int) (a1_4 : Int) (r : Bool) (w : World) (h : laws_eqCarpet.f a0_0 a0_1 a0_2 a0_3 a0_4 a1_0 a1_1 a1_2 a1_3 a1_4 = some r) :
    Calls Tryd.prog 85 #[.agg #[.int .i64 a0_0, .int .i64 a0_1, .int .i64 a0_2, .int .i64 a0_3, .int .i64 a0_4], .agg #[.int .i64 a1_0, .int .i64 a1_1, .int .i64 a1_2, .int .i64 a1_3, .int .i64 a1_4]] w fun e w' => e = .returned (.bool r) ∧ Below w.heap.size w w' := by
  have hu62 := Tryd.underlying62
  have HB := Aside0.mk (Below.refl w.heap.size w)
  unfold laws_eqCarpet.f at h
  have H := h
  clear h
  by_cases c3 : a0_0 = a1_0
  rotate_left
  · rw [if_neg c3] at H
    have c3b0 := beq_eq_false_iff_ne.mpr c3
    have c3b1 := bne_iff_ne.mpr c3
    obtain rfl := Option.some.inj H
    go_enter Tryd.func85, Tryd.ntmps85
    go_wp2_with (first | ((with_reducible refine gate_dst (N := 2) rfl ?_); refine qbox (N := 2) (cs := #[.int .i64 a0_0, .int .i64 a0_1, .int .i64 a0_2, .int .i64 a0_3, .int .i64 a0_4]) (t := 62) ?_; intro gb298 hg w33 hbox hb; refine qs4 (below_step zz20 hb) (hbox) ((zz87 : w.heap.size ≤ gb298)) ((zz87 : w.heap.size ≤ gb298)) ?_; clear HB; intro HB BK298 GW298 GE298; clear hb hbox hg) | ((with_reducible refine gate_dst (N := 3) rfl ?_); refine qbox (N := 3) (cs := #[.int .i64 a1_0, .int .i64 a1_1, .int .i64 a1_2, .int .i64 a1_3, .int .i64 a1_4]) (t := 62) ?_; intro gb299 hg w34 hbox hb; refine qs7 (blk_below (qb BK298.out) hb) (below_step zz26 hb) (hbox) ((zz88 : w.heap.size ≤ gb299)) ((zz88 : w.heap.size ≤ gb299)) ((zz6 : gb298 ≠ gb299)) ((zz7 : gb299 ≠ gb298)) ?_; clear BK298 HB; intro BK298 HB BK299 GW299 GE299 NB298_299 NB299_298; clear hb hbox hg; have hnb35 := NB298_299.out; have hnc35 := NB299_298.out; obtain ⟨hcz36_0, hcz36_1, hcz36_2, hcz36_3, hcz36_4, hfz36_0, hfz36_1, hfz36_2, hfz36_3, hfz36_4⟩ := qc5 BK298.out; obtain ⟨hcz37_0, hcz37_1, hcz37_2, hcz37_3, hcz37_4, hfz37_0, hfz37_1, hfz37_2, hfz37_3, hfz37_4⟩ := qc5 BK299.out))
    go_ret
    exact ⟨zz9, zz64⟩
  rw [if_pos c3] at H
  have c3b0 := beq_iff_eq.mpr c3
  have c3b1 := bne_eq_false_iff_eq.mpr c3
  clear c3
  by_cases c4 : a0_1 = a1_1
  rotate_left
  · rw [if_neg c4] at H
    have c4b0 := beq_eq_false_iff_ne.mpr c4
    have c4b1 := bne_iff_ne.mpr c4
    obtain rfl := Option.some.inj H
    go_enter Tryd.func85, Tryd.ntmps85
    go_wp2_with (first | ((with_reducible refine gate_dst (N := 2) rfl ?_); refine qbox (N := 2) (cs := #[.int .i64 a0_0, .int .i64 a0_1, .int .i64 a0_2, .int .i64 a0_3, .int .i64 a0_4]) (t := 62) ?_; intro gb298 hg w28 hbox hb; refine qs4 (below_step zz20 hb) (hbox) ((zz87 : w.heap.size ≤ gb298)) ((zz87 : w.heap.size ≤ gb298)) ?_; clear HB; intro HB BK298 GW298 GE298; clear hb hbox hg) | ((with_reducible refine gate_dst (N := 3) rfl ?_); refine qbox (N := 3) (cs := #[.int .i64 a1_0, .int .i64 a1_1, .int .i64 a1_2, .int .i64 a1_3, .int .i64 a1_4]) (t := 62) ?_; intro gb299 hg w29 hbox hb; refine qs7 (blk_below (qb BK298.out) hb) (below_step zz26 hb) (hbox) ((zz88 : w.heap.size ≤ gb299)) ((zz88 : w.heap.size ≤ gb299)) ((zz6 : gb298 ≠ gb299)) ((zz7 : gb299 ≠ gb298)) ?_; clear BK298 HB; intro BK298 HB BK299 GW299 GE299 NB298_299 NB299_298; clear hb hbox hg; have hnb30 := NB298_299.out; have hnc30 := NB299_298.out; obtain ⟨hcz31_0, hcz31_1, hcz31_2, hcz31_3, hcz31_4, hfz31_0, hfz31_1, hfz31_2, hfz31_3, hfz31_4⟩ := qc5 BK298.out; obtain ⟨hcz32_0, hcz32_1, hcz32_2, hcz32_3, hcz32_4, hfz32_0, hfz32_1, hfz32_2, hfz32_3, hfz32_4⟩ := qc5 BK299.out))
    go_ret
    exact ⟨zz9, zz64⟩
  rw [if_pos c4] at H
  have c4b0 := beq_iff_eq.mpr c4
  have c4b1 := bne_eq_false_iff_eq.mpr c4
  clear c4
  by_cases c5 : a0_2 = a1_2
  rotate_left
  · rw [if_neg c5] at H
    have c5b0 := beq_eq_false_iff_ne.mpr c5
    have c5b1 := bne_iff_ne.mpr c5
    obtain rfl := Option.some.inj H
    go_enter Tryd.func85, Tryd.ntmps85
    go_wp2_with (first | ((with_reducible refine gate_dst (N := 2) rfl ?_); refine qbox (N := 2) (cs := #[.int .i64 a0_0, .int .i64 a0_1, .int .i64 a0_2, .int .i64 a0_3, .int .i64 a0_4]) (t := 62) ?_; intro gb298 hg w23 hbox hb; refine qs4 (below_step zz20 hb) (hbox) ((zz87 : w.heap.size ≤ gb298)) ((zz87 : w.heap.size ≤ gb298)) ?_; clear HB; intro HB BK298 GW298 GE298; clear hb hbox hg) | ((with_reducible refine gate_dst (N := 3) rfl ?_); refine qbox (N := 3) (cs := #[.int .i64 a1_0, .int .i64 a1_1, .int .i64 a1_2, .int .i64 a1_3, .int .i64 a1_4]) (t := 62) ?_; intro gb299 hg w24 hbox hb; refine qs7 (blk_below (qb BK298.out) hb) (below_step zz26 hb) (hbox) ((zz88 : w.heap.size ≤ gb299)) ((zz88 : w.heap.size ≤ gb299)) ((zz6 : gb298 ≠ gb299)) ((zz7 : gb299 ≠ gb298)) ?_; clear BK298 HB; intro BK298 HB BK299 GW299 GE299 NB298_299 NB299_298; clear hb hbox hg; have hnb25 := NB298_299.out; have hnc25 := NB299_298.out; obtain ⟨hcz26_0, hcz26_1, hcz26_2, hcz26_3, hcz26_4, hfz26_0, hfz26_1, hfz26_2, hfz26_3, hfz26_4⟩ := qc5 BK298.out; obtain ⟨hcz27_0, hcz27_1, hcz27_2, hcz27_3, hcz27_4, hfz27_0, hfz27_1, hfz27_2, hfz27_3, hfz27_4⟩ := qc5 BK299.out))
    go_ret
    exact ⟨zz9, zz64⟩
  rw [if_pos c5] at H
  have c5b0 := beq_iff_eq.mpr c5
  have c5b1 := bne_eq_false_iff_eq.mpr c5
  clear c5
  by_cases c6 : a0_3 = a1_3
  rotate_left
  · rw [if_neg c6] at H
    have c6b0 := beq_eq_false_iff_ne.mpr c6
    have c6b1 := bne_iff_ne.mpr c6
    obtain rfl := Option.some.inj H
    go_enter Tryd.func85, Tryd.ntmps85
    go_wp2_with (first | ((with_reducible refine gate_dst (N := 2) rfl ?_); refine qbox (N := 2) (cs := #[.int .i64 a0_0, .int .i64 a0_1, .int .i64 a0_2, .int .i64 a0_3, .int .i64 a0_4]) (t := 62) ?_; intro gb298 hg w18 hbox hb; refine qs4 (below_step zz20 hb) (hbox) ((zz87 : w.heap.size ≤ gb298)) ((zz87 : w.heap.size ≤ gb298)) ?_; clear HB; intro HB BK298 GW298 GE298; clear hb hbox hg) | ((with_reducible refine gate_dst (N := 3) rfl ?_); refine qbox (N := 3) (cs := #[.int .i64 a1_0, .int .i64 a1_1, .int .i64 a1_2, .int .i64 a1_3, .int .i64 a1_4]) (t := 62) ?_; intro gb299 hg w19 hbox hb; refine qs7 (blk_below (qb BK298.out) hb) (below_step zz26 hb) (hbox) ((zz88 : w.heap.size ≤ gb299)) ((zz88 : w.heap.size ≤ gb299)) ((zz6 : gb298 ≠ gb299)) ((zz7 : gb299 ≠ gb298)) ?_; clear BK298 HB; intro BK298 HB BK299 GW299 GE299 NB298_299 NB299_298; clear hb hbox hg; have hnb20 := NB298_299.out; have hnc20 := NB299_298.out; obtain ⟨hcz21_0, hcz21_1, hcz21_2, hcz21_3, hcz21_4, hfz21_0, hfz21_1, hfz21_2, hfz21_3, hfz21_4⟩ := qc5 BK298.out; obtain ⟨hcz22_0, hcz22_1, hcz22_2, hcz22_3, hcz22_4, hfz22_0, hfz22_1, hfz22_2, hfz22_3, hfz22_4⟩ := qc5 BK299.out))
    go_ret
    exact ⟨zz9, zz64⟩
  rw [if_pos c6] at H
  have c6b0 := beq_iff_eq.mpr c6
  have c6b1 := bne_eq_false_iff_eq.mpr c6
  clear c6
  by_cases c7 : a0_4 = a1_4
  rotate_left
  · rw [if_neg c7] at H
    have c7b0 := beq_eq_false_iff_ne.mpr c7
    have c7b1 := bne_iff_ne.mpr c7
    obtain rfl := Option.some.inj H
    go_enter Tryd.func85, Tryd.ntmps85
    go_wp2_with (first | ((with_reducible refine gate_dst (N := 2) rfl ?_); refine qbox (N := 2) (cs := #[.int .i64 a0_0, .int .i64 a0_1, .int .i64 a0_2, .int .i64 a0_3, .int .i64 a0_4]) (t := 62) ?_; intro gb298 hg w13 hbox hb; refine qs4 (below_step zz20 hb) (hbox) ((zz87 : w.heap.size ≤ gb298)) ((zz87 : w.heap.size ≤ gb298)) ?_; clear HB; intro HB BK298 GW298 GE298; clear hb hbox hg) | ((with_reducible refine gate_dst (N := 3) rfl ?_); refine qbox (N := 3) (cs := #[.int .i64 a1_0, .int .i64 a1_1, .int .i64 a1_2, .int .i64 a1_3, .int .i64 a1_4]) (t := 62) ?_; intro gb299 hg w14 hbox hb; refine qs7 (blk_below (qb BK298.out) hb) (below_step zz26 hb) (hbox) ((zz88 : w.heap.size ≤ gb299)) ((zz88 : w.heap.size ≤ gb299)) ((zz6 : gb298 ≠ gb299)) ((zz7 : gb299 ≠ gb298)) ?_; clear BK298 HB; intro BK298 HB BK299 GW299 GE299 NB298_299 NB299_298; clear hb hbox hg; have hnb15 := NB298_299.out; have hnc15 := NB299_298.out; obtain ⟨hcz16_0, hcz16_1, hcz16_2, hcz16_3, hcz16_4, hfz16_0, hfz16_1, hfz16_2, hfz16_3, hfz16_4⟩ := qc5 BK298.out; obtain ⟨hcz17_0, hcz17_1, hcz17_2, hcz17_3, hcz17_4, hfz17_0, hfz17_1, hfz17_2, hfz17_3, hfz17_4⟩ := qc5 BK299.out))
    go_ret
    exact ⟨zz9, zz64⟩
  rw [if_pos c7] at H
  have c7b0 := beq_iff_eq.mpr c7
  have c7b1 := bne_eq_false_iff_eq.mpr c7
  clear c7
  obtain rfl := Option.some.inj H
  go_enter Tryd.func85, Tryd.ntmps85
  go_wp2_with (first | ((with_reducible refine gate_dst (N := 2) rfl ?_); refine qbox (N := 2) (cs := #[.int .i64 a0_0, .int .i64 a0_1, .int .i64 a0_2, .int .i64 a0_3, .int .i64 a0_4]) (t := 62) ?_; intro gb298 hg w8 hbox hb; refine qs4 (below_step zz20 hb) (hbox) ((zz87 : w.heap.size ≤ gb298)) ((zz87 : w.heap.size ≤ gb298)) ?_; clear HB; intro HB BK298 GW298 GE298; clear hb hbox hg) | ((with_reducible refine gate_dst (N := 3) rfl ?_); refine qbox (N := 3) (cs := #[.int .i64 a1_0, .int .i64 a1_1, .int .i64 a1_2, .int .i64 a1_3, .int .i64 a1_4]) (t := 62) ?_; intro gb299 hg w9 hbox hb; refine qs7 (blk_below (qb BK298.out) hb) (below_step zz26 hb) (hbox) ((zz88 : w.heap.size ≤ gb299)) ((zz88 : w.heap.size ≤ gb299)) ((zz6 : gb298 ≠ gb299)) ((zz7 : gb299 ≠ gb298)) ?_; clear BK298 HB; intro BK298 HB BK299 GW299 GE299 NB298_299 NB299_298; clear hb hbox hg; have hnb10 := NB298_299.out; have hnc10 := NB299_298.out; obtain ⟨hcz11_0, hcz11_1, hcz11_2, hcz11_3, hcz11_4, hfz11_0, hfz11_1, hfz11_2, hfz11_3, hfz11_4⟩ := qc5 BK298.out; obtain ⟨hcz12_0, hcz12_1, hcz12_2, hcz12_3, hcz12_4, hfz12_0, hfz12_1, hfz12_2, hfz12_3, hfz12_4⟩ := qc5 BK299.out))
  go_ret
  exact ⟨zz9, zz64⟩


/-! ### laws_eqCarpetS: function 74 -/
def laws_eqCarpetS.l0 : Nat → List (S62) → List (S62) → Int → Option (Bool)
  | 0, _, _, _ => none
  | k + 1, x0, x1, x5 => if x5 < (x0.length : Int) then (if 0 ≤ x5 then (if x5 < (x1.length : Int) then ((laws_eqCarpet.f ((rd_T62 x0 x5).f0) ((rd_T62 x0 x5).f1) ((rd_T62 x0 x5).f2) ((rd_T62 x0 x5).f3) ((rd_T62 x0 x5).f4) ((rd_T62 x1 x5).f0) ((rd_T62 x1 x5).f1) ((rd_T62 x1 x5).f2) ((rd_T62 x1 x5).f3) ((rd_T62 x1 x5).f4)).bind fun t302 => (if t302 = true then (laws_eqCarpetS.l0 k x0 x1 (wrap64 (x5 + 1))) else (some false))) else (none)) else (none)) else (some true)
def laws_eqCarpetS.f (k : Nat) (l0 : List (S62)) (l1 : List (S62)) : Option (Bool) := if (l0.length : Int) = (l1.length : Int) then (laws_eqCarpetS.l0 k l0 l1 0) else (some false)
def laws_eqCarpetS.T6 : Bool × List (List Nat × List Nat) := (true, [([], []), ([], []), ([0, 1], [0, 1]), ([2], [2]), ([], []), ([], []), ([4, 5], [4, 5]), ([6], [6]), ([3, 7], [3, 7]), ([8], [8])])
def laws_eqCarpetS.B6 : List Nat := [0, 0, 3, 7, 0, 0, 48, 112, 255, 511]
theorem laws_eqCarpetS.tab6 : rtab .any (opsOf Tryd.f74 6) = laws_eqCarpetS.T6 := by kernel_rfl
theorem laws_eqCarpetS.bits6 : waitsOk laws_eqCarpetS.T6.2 laws_eqCarpetS.B6 = true := by kernel_rfl
set_option maxHeartbeats 8000000 in
set_option maxRecDepth 100000 in
theorem laws_eqCarpetS.calls (k : Nat) (A0 : Option Addr) (c0 : Nat) (l0 : List (S62)) (A1 : Option Addr) (c1 : Nat) (l1 : List (S62)) (r : Bool) (w : World) (hr0 : Kd.C k62 w A0 l0.length l0) (hc0 : l0.length ≤ c0) (hr1 : Kd.C k62 w A1 l1.length l1) (hc1 : l1.length ≤ c1) (h : laws_eqCarpetS.f k l0 l1 = some r) :
    Calls Tryd.prog 74 #[.slice A0 l0.length c0, .slice A1 l1.length c1] w fun e w' => e = .returned (.bool r) ∧ Below w.heap.size w w' := by
  have hu62 := Tryd.underlying62
  have HR0 := Aside0.mk hr0
  have HC0 := Aside0.mk hc0
  clear hr0 hc0
  have HR1 := Aside0.mk hr1
  have HC1 := Aside0.mk hc1
  clear hr1 hc1
  have HB := Aside0.mk (Below.refl w.heap.size w)
  have H : (if (l0.length : Int) = (l1.length : Int) then (laws_eqCarpetS.l0 k l0 l1 0) else (some false)) = some r := h
  clear h
  by_cases c3 : (l0.length : Int) = (l1.length : Int)
  rotate_left
  · rw [if_neg c3] at H
    have c3b0 := beq_eq_false_iff_ne.mpr c3
    have c3b1 := bne_iff_ne.mpr c3
    have c3b2 : (l0.length == l1.length) = false := by first | simpa using c3 | (simp at c3 ⊢; omega)
    obtain rfl := Option.some.inj H
    go_enter Tryd.func74, Tryd.ntmps74
    go_wp2
    go_ret
    exact ⟨zz9, zz20⟩
  rw [if_pos c3] at H
  have c3b0 := beq_iff_eq.mpr c3
  have c3b1 := bne_eq_false_iff_eq.mpr c3
  have c3b2 : (l0.length == l1.length) = true := by first | simpa using c3 | (simp at c3 ⊢; omega)
  clear c3
  have H' := Aside0.mk H
  clear H
  go_enter Tryd.func74, Tryd.ntmps74
  go_wp2
  go_loopg [5] k (fun kq v5 w' => ∃ (x5_1 : Int), v5 = .int .i64 x5_1 ∧ Aside0 (laws_eqCarpetS.l0 kq l0 l1 x5_1 = some r) ∧ Aside0 (kq ≤ k) ∧ Aside0 (Below w.heap.size w w'))
  case atStart => exact ⟨(0), zz4, H', ⟨Nat.le_refl _⟩, ⟨zz20⟩⟩
  case round =>
    clear H'
    try clear c1
    try clear p2
    try clear c3
    try clear c3b0
    try clear c3b1
    try clear c3b2
    obtain ⟨x5_1, rfl, HA, HK1, HB⟩ := hrel
    cases gk with
    | zero => exact absurd HA.out (by simp [laws_eqCarpetS.l0])
    | succ k1 =>
      have H := HA.out
      clear HA
      simp only [laws_eqCarpetS.l0] at H
      by_cases c4 : x5_1 < (l0.length : Int)
      rotate_left
      · rw [if_neg c4] at H
        have c4b0 := decide_eq_false c4
        clear c4
        obtain rfl := Option.some.inj H
        go_wp2
        go_ret
        exact ⟨zz9, zz20⟩
      rw [if_pos c4] at H
      have c4b0 := decide_eq_true c4
      clear c4
      by_cases c5 : 0 ≤ x5_1
      rotate_left
      · rw [if_neg c5] at H
        exact absurd H (by simp)
      rw [if_pos c5] at H
      have c5b0 := decide_eq_true c5
      clear c5
      by_cases c6 : x5_1 < (l1.length : Int)
      rotate_left
      · rw [if_neg c6] at H
        exact absurd H (by simp)
      rw [if_pos c6] at H
      have c6b0 := decide_eq_true c6
      clear c6
      replace H := Option.bind_eq_some_iff.mp H
      obtain ⟨t302, A70, H⟩ := H
      (try dsimp only at H)
      have A7 := Aside0.mk A70
      clear A70
      by_cases c8 : t302 = true
      rotate_left
      · replace c8 := Bool.eq_false_iff.mpr c8
        subst c8
        rw [if_neg (show ¬ (false = true) by decide)] at H
        obtain rfl := Option.some.inj H
        try go_wp2
        refine qs1 (below_drew1 HB.out) ?_; clear HB; intro HB
        have p300 : 0 ≤ (x5_1 : Int) := of_decide_eq_true zz5
        have q300 : x5_1 < (l0.length : Int) := of_decide_eq_true zz5
        obtain ⟨ad300, e300, hx300_0, hx300_1, hx300_2, hx300_3, hx300_4⟩ := at_T62 HR0.out x5_1 p300 q300
        have hw300_4 := hx300_4
        have hw300_3 := hx300_3
        have hw300_2 := hx300_2
        have hw300_1 := hx300_1
        have hw300_0 := hx300_0
        cases e300
        replace hx300_0 := (HB.out.cell (World.block_lt_of_cell? w _ hx300_0)).trans hx300_0
        replace hx300_1 := (HB.out.cell (World.block_lt_of_cell? w _ hx300_1)).trans hx300_1
        replace hx300_2 := (HB.out.cell (World.block_lt_of_cell? w _ hx300_2)).trans hx300_2
        replace hx300_3 := (HB.out.cell (World.block_lt_of_cell? w _ hx300_3)).trans hx300_3
        replace hx300_4 := (HB.out.cell (World.block_lt_of_cell? w _ hx300_4)).trans hx300_4
        replace p300 := eq_true p300
        replace q300 := eq_true q300
        have p301 : 0 ≤ (x5_1 : Int) := of_decide_eq_true zz5
        have q301 : x5_1 < (l1.length : Int) := of_decide_eq_true zz5
        obtain ⟨ad301, e301, hx301_0, hx301_1, hx301_2, hx301_3, hx301_4⟩ := at_T62 HR1.out x5_1 p301 q301
        have hw301_4 := hx301_4
        have hw301_3 := hx301_3
        have hw301_2 := hx301_2
        have hw301_1 := hx301_1
        have hw301_0 := hx301_0
        cases e301
        replace hx301_0 := (HB.out.cell (World.block_lt_of_cell? w _ hx301_0)).trans hx301_0
        replace hx301_1 := (HB.out.cell (World.block_lt_of_cell? w _ hx301_1)).trans hx301_1
        replace hx301_2 := (HB.out.cell (World.block_lt_of_cell? w _ hx301_2)).trans hx301_2
        replace hx301_3 := (HB.out.cell (World.block_lt_of_cell? w _ hx301_3)).trans hx301_3
        replace hx301_4 := (HB.out.cell (World.block_lt_of_cell? w _ hx301_4)).trans hx301_4
        replace p301 := eq_true p301
        replace q301 := eq_true q301
        refine start_ (n := 10) (S := fun w' => w'.cell? (ad300.add ((x5_1).toNat * 5)) = some (.int .i64 ((rd_T62 l0 x5_1).f0)) ∧ w'.cell? ⟨(ad300.add ((x5_1).toNat * 5)).block, (ad300.add ((x5_1).toNat * 5)).off + 1, none⟩ = some (.int .i64 ((rd_T62 l0 x5_1).f1)) ∧ w'.cell? ⟨(ad300.add ((x5_1).toNat * 5)).block, (ad300.add ((x5_1).toNat * 5)).off + 2, none⟩ = some (.int .i64 ((rd_T62 l0 x5_1).f2)) ∧ w'.cell? ⟨(ad300.add ((x5_1).toNat * 5)).block, (ad300.add ((x5_1).toNat * 5)).off + 3, none⟩ = some (.int .i64 ((rd_T62 l0 x5_1).f3)) ∧ w'.cell? ⟨(ad300.add ((x5_1).toNat * 5)).block, (ad300.add ((x5_1).toNat * 5)).off + 4, none⟩ = some (.int .i64 ((rd_T62 l0 x5_1).f4)) ∧ w'.cell? (ad301.add ((x5_1).toNat * 5)) = some (.int .i64 ((rd_T62 l1 x5_1).f0)) ∧ w'.cell? ⟨(ad301.add ((x5_1).toNat * 5)).block, (ad301.add ((x5_1).toNat * 5)).off + 1, none⟩ = some (.int .i64 ((rd_T62 l1 x5_1).f1)) ∧ w'.cell? ⟨(ad301.add ((x5_1).toNat * 5)).block, (ad301.add ((x5_1).toNat * 5)).off + 2, none⟩ = some (.int .i64 ((rd_T62 l1 x5_1).f2)) ∧ w'.cell? ⟨(ad301.add ((x5_1).toNat * 5)).block, (ad301.add ((x5_1).toNat * 5)).off + 3, none⟩ = some (.int .i64 ((rd_T62 l1 x5_1).f3)) ∧ w'.cell? ⟨(ad301.add ((x5_1).toNat * 5)).block, (ad301.add ((x5_1).toNat * 5)).off + 4, none⟩ = some (.int .i64 ((rd_T62 l1 x5_1).f4))) (ds := []) #[false, false, false, false, false, false, false, false, false, false] (by kernel_rfl) rfl rfl ⟨((HB.out.cell (World.block_lt_of_cell? w _ hw300_0)).trans hw300_0), ((HB.out.cell (World.block_lt_of_cell? w _ hw300_1)).trans hw300_1), ((HB.out.cell (World.block_lt_of_cell? w _ hw300_2)).trans hw300_2), ((HB.out.cell (World.block_lt_of_cell? w _ hw300_3)).trans hw300_3), ((HB.out.cell (World.block_lt_of_cell? w _ hw300_4)).trans hw300_4), ((HB.out.cell (World.block_lt_of_cell? w _ hw301_0)).trans hw301_0), ((HB.out.cell (World.block_lt_of_cell? w _ hw301_1)).trans hw301_1), ((HB.out.cell (World.block_lt_of_cell? w _ hw301_2)).trans hw301_2), ((HB.out.cell (World.block_lt_of_cell? w _ hw301_3)).trans hw301_3), ((HB.out.cell (World.block_lt_of_cell? w _ hw301_4)).trans hw301_4)⟩ (fun hHeld => ?_); refine with_tabW laws_eqCarpetS.tab6 laws_eqCarpetS.bits6 (fun HT_ HW_ => ?_)
        generalize wr.drew = w11 at HB hx300_0 hx300_1 hx300_2 hx300_3 hx300_4 hx301_0 hx301_1 hx301_2 hx301_3 hx301_4 hHeld ⊢
        refine qp 0 17 ?_; refine qp 1 18 ?_; refine qp 2 19 ?_; refine qp 4 21 ?_; refine qp 5 22 ?_; refine qp 6 23 ?_; refine qt10 3 20 ?_; refine qt10 7 24 ?_
        refine one_ (i := 8) (N := some 25) #[true, true, true, true, true, true, true, true, true, false] rfl rfl (one_of HT_.out (by kernel_rfl)) (by decide) (fun K hK => ?_)
        refine goes_ Tryd.func85 (by kernel_rfl) rfl #[.agg #[.int .i64 ((rd_T62 l0 x5_1).f0), .int .i64 ((rd_T62 l0 x5_1).f1), .int .i64 ((rd_T62 l0 x5_1).f2), .int .i64 ((rd_T62 l0 x5_1).f3), .int .i64 ((rd_T62 l0 x5_1).f4)], .agg #[.int .i64 ((rd_T62 l1 x5_1).f0), .int .i64 ((rd_T62 l1 x5_1).f1), .int .i64 ((rd_T62 l1 x5_1).f2), .int .i64 ((rd_T62 l1 x5_1).f3), .int .i64 ((rd_T62 l1 x5_1).f4)]] (by rfl) rfl rfl zz21 ?_
        with_reducible refine (laws_eqCarpet.calls ((rd_T62 l0 x5_1).f0) ((rd_T62 l0 x5_1).f1) ((rd_T62 l0 x5_1).f2) ((rd_T62 l0 x5_1).f3) ((rd_T62 l0 x5_1).f4) ((rd_T62 l1 x5_1).f0) ((rd_T62 l1 x5_1).f1) ((rd_T62 l1 x5_1).f2) ((rd_T62 l1 x5_1).f3) ((rd_T62 l1 x5_1).f4) false _ A7.out).mono ?_
        rintro e w12 ⟨rfl, hb⟩
        refine ⟨_, rfl, ?_⟩
        refine qs1 (below_step zz20 hb) ?_; clear HB; intro HB
        (try clear hb)
        (try clear hb2)
        (try clear hk)
        (try clear hi)
        refine hK.out _ _ ⟨((HB.out.cell (World.block_lt_of_cell? w _ hw300_0)).trans hw300_0), ((HB.out.cell (World.block_lt_of_cell? w _ hw300_1)).trans hw300_1), ((HB.out.cell (World.block_lt_of_cell? w _ hw300_2)).trans hw300_2), ((HB.out.cell (World.block_lt_of_cell? w _ hw300_3)).trans hw300_3), ((HB.out.cell (World.block_lt_of_cell? w _ hw300_4)).trans hw300_4), ((HB.out.cell (World.block_lt_of_cell? w _ hw301_0)).trans hw301_0), ((HB.out.cell (World.block_lt_of_cell? w _ hw301_1)).trans hw301_1), ((HB.out.cell (World.block_lt_of_cell? w _ hw301_2)).trans hw301_2), ((HB.out.cell (World.block_lt_of_cell? w _ hw301_3)).trans hw301_3), ((HB.out.cell (World.block_lt_of_cell? w _ hw301_4)).trans hw301_4)⟩ (fun hHeld => ?_)
        clear hK K
        refine norm_ (a' := ?_) ?_ ?_
        rotate_left
        · show Act.put _ (some 25) _ = _
          simp only [Act.put, List.setIfInBounds_toArray, List.set_cons_zero, List.set_cons_succ, i64_w, i32_w]
          rfl
        refine qp 9 26 ?_
        refine done_ (done_of HT_.out (by kernel_rfl)) ?_
        try go_wp2
        go_ret
        exact ⟨zz9, zz20⟩
      subst c8
      rw [if_pos rfl] at H
      have H' := Aside0.mk H
      clear H
      try go_wp2
      refine qs1 (below_drew1 HB.out) ?_; clear HB; intro HB
      have p300 : 0 ≤ (x5_1 : Int) := of_decide_eq_true zz5
      have q300 : x5_1 < (l0.length : Int) := of_decide_eq_true zz5
      obtain ⟨ad300, e300, hx300_0, hx300_1, hx300_2, hx300_3, hx300_4⟩ := at_T62 HR0.out x5_1 p300 q300
      have hw300_4 := hx300_4
      have hw300_3 := hx300_3
      have hw300_2 := hx300_2
      have hw300_1 := hx300_1
      have hw300_0 := hx300_0
      cases e300
      replace hx300_0 := (HB.out.cell (World.block_lt_of_cell? w _ hx300_0)).trans hx300_0
      replace hx300_1 := (HB.out.cell (World.block_lt_of_cell? w _ hx300_1)).trans hx300_1
      replace hx300_2 := (HB.out.cell (World.block_lt_of_cell? w _ hx300_2)).trans hx300_2
      replace hx300_3 := (HB.out.cell (World.block_lt_of_cell? w _ hx300_3)).trans hx300_3
      replace hx300_4 := (HB.out.cell (World.block_lt_of_cell? w _ hx300_4)).trans hx300_4
      replace p300 := eq_true p300
      replace q300 := eq_true q300
      have p301 : 0 ≤ (x5_1 : Int) := of_decide_eq_true zz5
      have q301 : x5_1 < (l1.length : Int) := of_decide_eq_true zz5
      obtain ⟨ad301, e301, hx301_0, hx301_1, hx301_2, hx301_3, hx301_4⟩ := at_T62 HR1.out x5_1 p301 q301
      have hw301_4 := hx301_4
      have hw301_3 := hx301_3
      have hw301_2 := hx301_2
      have hw301_1 := hx301_1
      have hw301_0 := hx301_0
      cases e301
      replace hx301_0 := (HB.out.cell (World.block_lt_of_cell? w _ hx301_0)).trans hx301_0
      replace hx301_1 := (HB.out.cell (World.block_lt_of_cell? w _ hx301_1)).trans hx301_1
      replace hx301_2 := (HB.out.cell (World.block_lt_of_cell? w _ hx301_2)).trans hx301_2
      replace hx301_3 := (HB.out.cell (World.block_lt_of_cell? w _ hx301_3)).trans hx301_3
      replace hx301_4 := (HB.out.cell (World.block_lt_of_cell? w _ hx301_4)).trans hx301_4
      replace p301 := eq_true p301
      replace q301 := eq_true q301
      refine start_ (n := 10) (S := fun w' => w'.cell? (ad300.add ((x5_1).toNat * 5)) = some (.int .i64 ((rd_T62 l0 x5_1).f0)) ∧ w'.cell? ⟨(ad300.add ((x5_1).toNat * 5)).block, (ad300.add ((x5_1).toNat * 5)).off + 1, none⟩ = some (.int .i64 ((rd_T62 l0 x5_1).f1)) ∧ w'.cell? ⟨(ad300.add ((x5_1).toNat * 5)).block, (ad300.add ((x5_1).toNat * 5)).off + 2, none⟩ = some (.int .i64 ((rd_T62 l0 x5_1).f2)) ∧ w'.cell? ⟨(ad300.add ((x5_1).toNat * 5)).block, (ad300.add ((x5_1).toNat * 5)).off + 3, none⟩ = some (.int .i64 ((rd_T62 l0 x5_1).f3)) ∧ w'.cell? ⟨(ad300.add ((x5_1).toNat * 5)).block, (ad300.add ((x5_1).toNat * 5)).off + 4, none⟩ = some (.int .i64 ((rd_T62 l0 x5_1).f4)) ∧ w'.cell? (ad301.add ((x5_1).toNat * 5)) = some (.int .i64 ((rd_T62 l1 x5_1).f0)) ∧ w'.cell? ⟨(ad301.add ((x5_1).toNat * 5)).block, (ad301.add ((x5_1).toNat * 5)).off + 1, none⟩ = some (.int .i64 ((rd_T62 l1 x5_1).f1)) ∧ w'.cell? ⟨(ad301.add ((x5_1).toNat * 5)).block, (ad301.add ((x5_1).toNat * 5)).off + 2, none⟩ = some (.int .i64 ((rd_T62 l1 x5_1).f2)) ∧ w'.cell? ⟨(ad301.add ((x5_1).toNat * 5)).block, (ad301.add ((x5_1).toNat * 5)).off + 3, none⟩ = some (.int .i64 ((rd_T62 l1 x5_1).f3)) ∧ w'.cell? ⟨(ad301.add ((x5_1).toNat * 5)).block, (ad301.add ((x5_1).toNat * 5)).off + 4, none⟩ = some (.int .i64 ((rd_T62 l1 x5_1).f4))) (ds := []) #[false, false, false, false, false, false, false, false, false, false] (by kernel_rfl) rfl rfl ⟨((HB.out.cell (World.block_lt_of_cell? w _ hw300_0)).trans hw300_0), ((HB.out.cell (World.block_lt_of_cell? w _ hw300_1)).trans hw300_1), ((HB.out.cell (World.block_lt_of_cell? w _ hw300_2)).trans hw300_2), ((HB.out.cell (World.block_lt_of_cell? w _ hw300_3)).trans hw300_3), ((HB.out.cell (World.block_lt_of_cell? w _ hw300_4)).trans hw300_4), ((HB.out.cell (World.block_lt_of_cell? w _ hw301_0)).trans hw301_0), ((HB.out.cell (World.block_lt_of_cell? w _ hw301_1)).trans hw301_1), ((HB.out.cell (World.block_lt_of_cell? w _ hw301_2)).trans hw301_2), ((HB.out.cell (World.block_lt_of_cell? w _ hw301_3)).trans hw301_3), ((HB.out.cell (World.block_lt_of_cell? w _ hw301_4)).trans hw301_4)⟩ (fun hHeld => ?_); refine with_tabW laws_eqCarpetS.tab6 laws_eqCarpetS.bits6 (fun HT_ HW_ => ?_)
      generalize wr.drew = w9 at HB hx300_0 hx300_1 hx300_2 hx300_3 hx300_4 hx301_0 hx301_1 hx301_2 hx301_3 hx301_4 hHeld ⊢
      refine qp 0 17 ?_; refine qp 1 18 ?_; refine qp 2 19 ?_; refine qp 4 21 ?_; refine qp 5 22 ?_; refine qp 6 23 ?_; refine qt10 3 20 ?_; refine qt10 7 24 ?_
      refine one_ (i := 8) (N := some 25) #[true, true, true, true, true, true, true, true, true, false] rfl rfl (one_of HT_.out (by kernel_rfl)) (by decide) (fun K hK => ?_)
      refine goes_ Tryd.func85 (by kernel_rfl) rfl #[.agg #[.int .i64 ((rd_T62 l0 x5_1).f0), .int .i64 ((rd_T62 l0 x5_1).f1), .int .i64 ((rd_T62 l0 x5_1).f2), .int .i64 ((rd_T62 l0 x5_1).f3), .int .i64 ((rd_T62 l0 x5_1).f4)], .agg #[.int .i64 ((rd_T62 l1 x5_1).f0), .int .i64 ((rd_T62 l1 x5_1).f1), .int .i64 ((rd_T62 l1 x5_1).f2), .int .i64 ((rd_T62 l1 x5_1).f3), .int .i64 ((rd_T62 l1 x5_1).f4)]] (by rfl) rfl rfl zz21 ?_
      with_reducible refine (laws_eqCarpet.calls ((rd_T62 l0 x5_1).f0) ((rd_T62 l0 x5_1).f1) ((rd_T62 l0 x5_1).f2) ((rd_T62 l0 x5_1).f3) ((rd_T62 l0 x5_1).f4) ((rd_T62 l1 x5_1).f0) ((rd_T62 l1 x5_1).f1) ((rd_T62 l1 x5_1).f2) ((rd_T62 l1 x5_1).f3) ((rd_T62 l1 x5_1).f4) true _ A7.out).mono ?_
      rintro e w10 ⟨rfl, hb⟩
      refine ⟨_, rfl, ?_⟩
      refine qs1 (below_step zz20 hb) ?_; clear HB; intro HB
      (try clear hb)
      (try clear hb2)
      (try clear hk)
      (try clear hi)
      refine hK.out _ _ ⟨((HB.out.cell (World.block_lt_of_cell? w _ hw300_0)).trans hw300_0), ((HB.out.cell (World.block_lt_of_cell? w _ hw300_1)).trans hw300_1), ((HB.out.cell (World.block_lt_of_cell? w _ hw300_2)).trans hw300_2), ((HB.out.cell (World.block_lt_of_cell? w _ hw300_3)).trans hw300_3), ((HB.out.cell (World.block_lt_of_cell? w _ hw300_4)).trans hw300_4), ((HB.out.cell (World.block_lt_of_cell? w _ hw301_0)).trans hw301_0), ((HB.out.cell (World.block_lt_of_cell? w _ hw301_1)).trans hw301_1), ((HB.out.cell (World.block_lt_of_cell? w _ hw301_2)).trans hw301_2), ((HB.out.cell (World.block_lt_of_cell? w _ hw301_3)).trans hw301_3), ((HB.out.cell (World.block_lt_of_cell? w _ hw301_4)).trans hw301_4)⟩ (fun hHeld => ?_)
      clear hK K
      refine norm_ (a' := ?_) ?_ ?_
      rotate_left
      · show Act.put _ (some 25) _ = _
        simp only [Act.put, List.setIfInBounds_toArray, List.set_cons_zero, List.set_cons_succ, i64_w, i32_w]
        rfl
      refine qp 9 26 ?_
      refine done_ (done_of HT_.out (by kernel_rfl)) ?_
      try go_wp2
      go_roundg k1
      case measure => have := HK1.out; omega
      case rel => exact ⟨(wrap64 (x5_1 + 1)), zz4, H', ⟨zz1⟩, ⟨zz20⟩⟩


end Go.Proofs.YtneaeaoemhghdaaDoor.G

-- Written by a program of this session (wip/pd.py), which calls the kit's print; externals' contracts by hand.
namespace Go.Proofs.YtneaeaoemhghdaaDoor.G
open Go.Proofs.YtneaeaoemhghdaaDoorQ
open Go.RowKit Go.Proofs.YtneaeaoemhghdaaDoorW.PrintWords Go.Proofs.YtneaeaoemhghdaaDoorW.PrintLast Go.Proofs.YtneaeaoemhghdaaDoorW.PrintMore
attribute [local go_sem] max2_int min2_int max_two min_two max_three min_three max_four min_four   -- for this text's walks alone
set_option linter.unusedVariables false
set_option linter.unusedSimpArgs false

/-! ### laws_eqShop: function 50 -/
def laws_eqShop.f (k : Nat) (a0_0 : Int) (a0_1 : Int) (l0_2 : List (S62)) (a0_3 : Int) (a1_0 : Int) (a1_1 : Int) (l1_2 : List (S62)) (a1_3 : Int) : Option (Bool) := if a0_0 = a1_0 then (if a0_1 = a1_1 then ((laws_eqCarpetS.f k l0_2 l1_2).bind fun t305 => (if t305 = true then (if a0_3 = a1_3 then (some true) else (some false)) else (some false))) else (some false)) else (some false)
set_option maxHeartbeats 8000000 in
set_option maxRecDepth 100000 in
theorem laws_eqShop.calls (k : Nat) (a0_0 : Int) (a0_1 : Int) (A0_2 : Option Addr) (c0_2 : Nat) (l0_2 : List (S62)) (a0_3 : Int) (a1_0 : Int) (a1_1 : Int) (A1_2 : Option Addr) (c1_2 : Nat) (l1_2 : List (S62)) (a1_3 : Int) (r : Bool) (w : World) (hr0_2 : Kd.C k62 w A0_2 l0_2.length l0_2) (hc0_2 : l0_2.length ≤ c0_2) (hr1_2 : Kd.C k62 w A1_2 l1_2.length l1_2) (hc1_2 : l1_2.length ≤ c1_2) (h : laws_eqShop.f k a0_0 a0_1 l0_2 a0_3 a1_0 a1_1 l1_2 a1_3 = some r) :
    Calls Tryd.prog 50 #[.agg #[.int .i64 a0_0, .int .i64 a0_1, .slice A0_2 l0_2.length c0_2, .int .i64 a0_3], .agg #[.int .i64 a1_0, .int .i64 a1_1, .slice A1_2 l1_2.length c1_2, .int .i64 a1_3]] w fun e w' => e = .returned (.bool r) ∧ Below w.heap.size w w' := by
  have hu26 := Tryd.underlying26
  have HR0_2 := Aside0.mk hr0_2
  have HC0_2 := Aside0.mk hc0_2
  clear hr0_2 hc0_2
  have HR1_2 := Aside0.mk hr1_2
  have HC1_2 := Aside0.mk hc1_2
  clear hr1_2 hc1_2
  have HB := Aside0.mk (Below.refl w.heap.size w)
  unfold laws_eqShop.f at h
  have H := h
  clear h
  by_cases c3 : a0_0 = a1_0
  rotate_left
  · rw [if_neg c3] at H
    have c3b0 := beq_eq_false_iff_ne.mpr c3
    have c3b1 := bne_iff_ne.mpr c3
    obtain rfl := Option.some.inj H
    go_enter Tryd.func50, Tryd.ntmps50
    go_wp2_with (first | ((with_reducible refine gate_dst (N := 2) rfl ?_); refine qbox (N := 2) (cs := #[.int .i64 a0_0, .int .i64 a0_1, .slice A0_2 l0_2.length c0_2, .int .i64 a0_3]) (t := 26) ?_; intro gb303 hg w35 hbox hb; refine qs4 (below_step zz20 hb) (hbox) ((zz87 : w.heap.size ≤ gb303)) ((zz87 : w.heap.size ≤ gb303)) ?_; clear HB; intro HB BK303 GW303 GE303; clear hb hbox hg) | ((with_reducible refine gate_dst (N := 3) rfl ?_); refine qbox (N := 3) (cs := #[.int .i64 a1_0, .int .i64 a1_1, .slice A1_2 l1_2.length c1_2, .int .i64 a1_3]) (t := 26) ?_; intro gb304 hg w36 hbox hb; refine qs7 (blk_below (qb BK303.out) hb) (below_step zz30 hb) (hbox) ((zz89 : w.heap.size ≤ gb304)) ((zz89 : w.heap.size ≤ gb304)) ((by rw [hg]; exact Nat.ne_of_lt (blk_lt (qb BK303.out)) : gb303 ≠ gb304)) ((by rw [hg]; exact Nat.ne_of_gt (blk_lt (qb BK303.out)) : gb304 ≠ gb303)) ?_; clear BK303 HB; intro BK303 HB BK304 GW304 GE304 NB303_304 NB304_303; clear hb hbox hg; have hnb37 := NB303_304.out; have hnc37 := NB304_303.out; obtain ⟨hcz38_0, hcz38_1, hcz38_2, hcz38_3, hfz38_0, hfz38_1, hfz38_2, hfz38_3⟩ := qc4 BK303.out; obtain ⟨hcz39_0, hcz39_1, hcz39_2, hcz39_3, hfz39_0, hfz39_1, hfz39_2, hfz39_3⟩ := qc4 BK304.out))
    go_ret
    exact ⟨zz9, zz60⟩
  rw [if_pos c3] at H
  have c3b0 := beq_iff_eq.mpr c3
  have c3b1 := bne_eq_false_iff_eq.mpr c3
  clear c3
  by_cases c4 : a0_1 = a1_1
  rotate_left
  · rw [if_neg c4] at H
    have c4b0 := beq_eq_false_iff_ne.mpr c4
    have c4b1 := bne_iff_ne.mpr c4
    obtain rfl := Option.some.inj H
    go_enter Tryd.func50, Tryd.ntmps50
    go_wp2_with (first | ((with_reducible refine gate_dst (N := 2) rfl ?_); refine qbox (N := 2) (cs := #[.int .i64 a0_0, .int .i64 a0_1, .slice A0_2 l0_2.length c0_2, .int .i64 a0_3]) (t := 26) ?_; intro gb303 hg w30 hbox hb; refine qs4 (below_step zz20 hb) (hbox) ((zz87 : w.heap.size ≤ gb303)) ((zz87 : w.heap.size ≤ gb303)) ?_; clear HB; intro HB BK303 GW303 GE303; clear hb hbox hg) | ((with_reducible refine gate_dst (N := 3) rfl ?_); refine qbox (N := 3) (cs := #[.int .i64 a1_0, .int .i64 a1_1, .slice A1_2 l1_2.length c1_2, .int .i64 a1_3]) (t := 26) ?_; intro gb304 hg w31 hbox hb; refine qs7 (blk_below (qb BK303.out) hb) (below_step zz30 hb) (hbox) ((zz89 : w.heap.size ≤ gb304)) ((zz89 : w.heap.size ≤ gb304)) ((by rw [hg]; exact Nat.ne_of_lt (blk_lt (qb BK303.out)) : gb303 ≠ gb304)) ((by rw [hg]; exact Nat.ne_of_gt (blk_lt (qb BK303.out)) : gb304 ≠ gb303)) ?_; clear BK303 HB; intro BK303 HB BK304 GW304 GE304 NB303_304 NB304_303; clear hb hbox hg; have hnb32 := NB303_304.out; have hnc32 := NB304_303.out; obtain ⟨hcz33_0, hcz33_1, hcz33_2, hcz33_3, hfz33_0, hfz33_1, hfz33_2, hfz33_3⟩ := qc4 BK303.out; obtain ⟨hcz34_0, hcz34_1, hcz34_2, hcz34_3, hfz34_0, hfz34_1, hfz34_2, hfz34_3⟩ := qc4 BK304.out))
    go_ret
    exact ⟨zz9, zz60⟩
  rw [if_pos c4] at H
  have c4b0 := beq_iff_eq.mpr c4
  have c4b1 := bne_eq_false_iff_eq.mpr c4
  clear c4
  replace H := Option.bind_eq_some_iff.mp H
  obtain ⟨t305, A50, H⟩ := H
  (try dsimp only at H)
  have A5 := Aside0.mk A50
  clear A50
  by_cases c6 : t305 = true
  rotate_left
  · replace c6 := Bool.eq_false_iff.mpr c6
    subst c6
    rw [if_neg (show ¬ (false = true) by decide)] at H
    obtain rfl := Option.some.inj H
    go_enter Tryd.func50, Tryd.ntmps50
    go_wp2_with (first | ((with_reducible refine gate_dst (N := 2) rfl ?_); refine qbox (N := 2) (cs := #[.int .i64 a0_0, .int .i64 a0_1, .slice A0_2 l0_2.length c0_2, .int .i64 a0_3]) (t := 26) ?_; intro gb303 hg w24 hbox hb; refine qs4 (below_step zz20 hb) (hbox) ((zz87 : w.heap.size ≤ gb303)) ((zz87 : w.heap.size ≤ gb303)) ?_; clear HB; intro HB BK303 GW303 GE303; clear hb hbox hg) | ((with_reducible refine gate_dst (N := 3) rfl ?_); refine qbox (N := 3) (cs := #[.int .i64 a1_0, .int .i64 a1_1, .slice A1_2 l1_2.length c1_2, .int .i64 a1_3]) (t := 26) ?_; intro gb304 hg w25 hbox hb; refine qs7 (blk_below (qb BK303.out) hb) (below_step zz30 hb) (hbox) ((zz89 : w.heap.size ≤ gb304)) ((zz89 : w.heap.size ≤ gb304)) ((by rw [hg]; exact Nat.ne_of_lt (blk_lt (qb BK303.out)) : gb303 ≠ gb304)) ((by rw [hg]; exact Nat.ne_of_gt (blk_lt (qb BK303.out)) : gb304 ≠ gb303)) ?_; clear BK303 HB; intro BK303 HB BK304 GW304 GE304 NB303_304 NB304_303; clear hb hbox hg; have hnb26 := NB303_304.out; have hnc26 := NB304_303.out; obtain ⟨hcz27_0, hcz27_1, hcz27_2, hcz27_3, hfz27_0, hfz27_1, hfz27_2, hfz27_3⟩ := qc4 BK303.out; obtain ⟨hcz28_0, hcz28_1, hcz28_2, hcz28_3, hfz28_0, hfz28_1, hfz28_2, hfz28_3⟩ := qc4 BK304.out) | ((with_reducible refine gate_callee (f := 74) rfl ?_); refine qcall 19 Tryd.func74 rfl #[.slice A0_2 l0_2.length c0_2, .slice A1_2 l1_2.length c1_2] ?_; (with_reducible refine (laws_eqCarpetS.calls k _ _ l0_2 _ _ l1_2 false _ ?side1 ?side2 ?side3 ?side4 A5.out).mono ?_); (case side1 => exact zz54); (case side2 => exact zz0); (case side3 => exact zz55); (case side4 => exact HC1_2.out); rintro e w29 ⟨rfl, hb⟩; refine ⟨_, rfl, ?_⟩; refine qs3 (blk_below (qb BK303.out) hb) (blk_below (qb BK304.out) hb) (below_step zz60 hb) ?_; clear BK303 BK304 HB; intro BK303 BK304 HB; (try clear hb); (try clear hb2); (try clear hk); (try clear hi)))
    go_ret
    exact ⟨zz9, zz60⟩
  subst c6
  rw [if_pos rfl] at H
  by_cases c7 : a0_3 = a1_3
  rotate_left
  · rw [if_neg c7] at H
    have c7b0 := beq_eq_false_iff_ne.mpr c7
    have c7b1 := bne_iff_ne.mpr c7
    obtain rfl := Option.some.inj H
    go_enter Tryd.func50, Tryd.ntmps50
    go_wp2_with (first | ((with_reducible refine gate_dst (N := 2) rfl ?_); refine qbox (N := 2) (cs := #[.int .i64 a0_0, .int .i64 a0_1, .slice A0_2 l0_2.length c0_2, .int .i64 a0_3]) (t := 26) ?_; intro gb303 hg w16 hbox hb; refine qs4 (below_step zz20 hb) (hbox) ((zz87 : w.heap.size ≤ gb303)) ((zz87 : w.heap.size ≤ gb303)) ?_; clear HB; intro HB BK303 GW303 GE303; clear hb hbox hg) | ((with_reducible refine gate_dst (N := 3) rfl ?_); refine qbox (N := 3) (cs := #[.int .i64 a1_0, .int .i64 a1_1, .slice A1_2 l1_2.length c1_2, .int .i64 a1_3]) (t := 26) ?_; intro gb304 hg w17 hbox hb; refine qs7 (blk_below (qb BK303.out) hb) (below_step zz30 hb) (hbox) ((zz89 : w.heap.size ≤ gb304)) ((zz89 : w.heap.size ≤ gb304)) ((by rw [hg]; exact Nat.ne_of_lt (blk_lt (qb BK303.out)) : gb303 ≠ gb304)) ((by rw [hg]; exact Nat.ne_of_gt (blk_lt (qb BK303.out)) : gb304 ≠ gb303)) ?_; clear BK303 HB; intro BK303 HB BK304 GW304 GE304 NB303_304 NB304_303; clear hb hbox hg; have hnb18 := NB303_304.out; have hnc18 := NB304_303.out; obtain ⟨hcz19_0, hcz19_1, hcz19_2, hcz19_3, hfz19_0, hfz19_1, hfz19_2, hfz19_3⟩ := qc4 BK303.out; obtain ⟨hcz20_0, hcz20_1, hcz20_2, hcz20_3, hfz20_0, hfz20_1, hfz20_2, hfz20_3⟩ := qc4 BK304.out) | ((with_reducible refine gate_callee (f := 74) rfl ?_); refine qcall 19 Tryd.func74 rfl #[.slice A0_2 l0_2.length c0_2, .slice A1_2 l1_2.length c1_2] ?_; (with_reducible refine (laws_eqCarpetS.calls k _ _ l0_2 _ _ l1_2 true _ ?side1 ?side2 ?side3 ?side4 A5.out).mono ?_); (case side1 => exact zz54); (case side2 => exact zz0); (case side3 => exact zz55); (case side4 => exact HC1_2.out); rintro e w21 ⟨rfl, hb⟩; refine ⟨_, rfl, ?_⟩; refine qs3 (blk_below (qb BK303.out) hb) (blk_below (qb BK304.out) hb) (below_step zz60 hb) ?_; clear BK303 BK304 HB; intro BK303 BK304 HB; (try clear hb); (try clear hb2); (try clear hk); (try clear hi); obtain ⟨hcz22_0, hcz22_1, hcz22_2, hcz22_3, hfz22_0, hfz22_1, hfz22_2, hfz22_3⟩ := qc4 BK303.out; obtain ⟨hcz23_0, hcz23_1, hcz23_2, hcz23_3, hfz23_0, hfz23_1, hfz23_2, hfz23_3⟩ := qc4 BK304.out))
    go_ret
    exact ⟨zz9, zz60⟩
  rw [if_pos c7] at H
  have c7b0 := beq_iff_eq.mpr c7
  have c7b1 := bne_eq_false_iff_eq.mpr c7
  clear c7
  obtain rfl := Option.some.inj H
  go_enter Tryd.func50, Tryd.ntmps50
  go_wp2_with (first | ((with_reducible refine gate_dst (N := 2) rfl ?_); refine qbox (N := 2) (cs := #[.int .i64 a0_0, .int .i64 a0_1, .slice A0_2 l0_2.length c0_2, .int .i64 a0_3]) (t := 26) ?_; intro gb303 hg w8 hbox hb; refine qs4 (below_step zz20 hb) (hbox) ((zz87 : w.heap.size ≤ gb303)) ((zz87 : w.heap.size ≤ gb303)) ?_; clear HB; intro HB BK303 GW303 GE303; clear hb hbox hg) | ((with_reducible refine gate_dst (N := 3) rfl ?_); refine qbox (N := 3) (cs := #[.int .i64 a1_0, .int .i64 a1_1, .slice A1_2 l1_2.length c1_2, .int .i64 a1_3]) (t := 26) ?_; intro gb304 hg w9 hbox hb; refine qs7 (blk_below (qb BK303.out) hb) (below_step zz30 hb) (hbox) ((zz89 : w.heap.size ≤ gb304)) ((zz89 : w.heap.size ≤ gb304)) ((by rw [hg]; exact Nat.ne_of_lt (blk_lt (qb BK303.out)) : gb303 ≠ gb304)) ((by rw [hg]; exact Nat.ne_of_gt (blk_lt (qb BK303.out)) : gb304 ≠ gb303)) ?_; clear BK303 HB; intro BK303 HB BK304 GW304 GE304 NB303_304 NB304_303; clear hb hbox hg; have hnb10 := NB303_304.out; have hnc10 := NB304_303.out; obtain ⟨hcz11_0, hcz11_1, hcz11_2, hcz11_3, hfz11_0, hfz11_1, hfz11_2, hfz11_3⟩ := qc4 BK303.out; obtain ⟨hcz12_0, hcz12_1, hcz12_2, hcz12_3, hfz12_0, hfz12_1, hfz12_2, hfz12_3⟩ := qc4 BK304.out) | ((with_reducible refine gate_callee (f := 74) rfl ?_); refine qcall 19 Tryd.func74 rfl #[.slice A0_2 l0_2.length c0_2, .slice A1_2 l1_2.length c1_2] ?_; (with_reducible refine (laws_eqCarpetS.calls k _ _ l0_2 _ _ l1_2 true _ ?side1 ?side2 ?side3 ?side4 A5.out).mono ?_); (case side1 => exact zz54); (case side2 => exact zz0); (case side3 => exact zz55); (case side4 => exact HC1_2.out); rintro e w13 ⟨rfl, hb⟩; refine ⟨_, rfl, ?_⟩; refine qs3 (blk_below (qb BK303.out) hb) (blk_below (qb BK304.out) hb) (below_step zz60 hb) ?_; clear BK303 BK304 HB; intro BK303 BK304 HB; (try clear hb); (try clear hb2); (try clear hk); (try clear hi); obtain ⟨hcz14_0, hcz14_1, hcz14_2, hcz14_3, hfz14_0, hfz14_1, hfz14_2, hfz14_3⟩ := qc4 BK303.out; obtain ⟨hcz15_0, hcz15_1, hcz15_2, hcz15_3, hfz15_0, hfz15_1, hfz15_2, hfz15_3⟩ := qc4 BK304.out))
  go_ret
  exact ⟨zz9, zz60⟩


/-! ### laws_eqLog: function 51 -/
def laws_eqLog.f (a0_0 : ByteArray) (a0_1 : ByteArray) (a0_2 : Int) (a1_0 : ByteArray) (a1_1 : ByteArray) (a1_2 : Int) : Option (Bool) := if a0_0.toList = a1_0.toList then (if a0_1.toList = a1_1.toList then (if a0_2 = a1_2 then (some true) else (some false)) else (some false)) else (some false)
set_option maxHeartbeats 8000000 in
set_option maxRecDepth 100000 in
theorem laws_eqLog.calls (a0_0 : ByteArray) (a0_1 : ByteArray) (a0_2 : Int) (a1_0 : ByteArray) (a1_1 : ByteArray) (a1_2 : Int) (r : Bool) (w : World) (h : laws_eqLog.f a0_0 a0_1 a0_2 a1_0 a1_1 a1_2 = some r) :
    Calls Tryd.prog 51 #[.agg #[.string a0_0, .string a0_1, .int .i64 a0_2], .agg #[.string a1_0, .string a1_1, .int .i64 a1_2]] w fun e w' => e = .returned (.bool r) ∧ Below w.heap.size w w' := by
  have hu52 := Tryd.underlying52
  have HB := Aside0.mk (Below.refl w.heap.size w)
  unfold laws_eqLog.f at h
  have H := h
  clear h
  by_cases c3 : a0_0.toList = a1_0.toList
  rotate_left
  · rw [if_neg c3] at H
    have c3b0 := beq_eq_false_iff_ne.mpr c3
    have c3b1 := bne_iff_ne.mpr c3
    obtain rfl := Option.some.inj H
    go_enter Tryd.func51, Tryd.ntmps51
    go_wp2_with (first | ((with_reducible refine gate_dst (N := 2) rfl ?_); refine qbox (N := 2) (cs := #[.string a0_0, .string a0_1, .int .i64 a0_2]) (t := 52) ?_; intro gb306 hg w21 hbox hb; refine qs4 (below_step zz20 hb) (hbox) ((zz87 : w.heap.size ≤ gb306)) ((zz87 : w.heap.size ≤ gb306)) ?_; clear HB; intro HB BK306 GW306 GE306; clear hb hbox hg) | ((with_reducible refine gate_dst (N := 3) rfl ?_); refine qbox (N := 3) (cs := #[.string a1_0, .string a1_1, .int .i64 a1_2]) (t := 52) ?_; intro gb307 hg w22 hbox hb; refine qs7 (blk_below (qb BK306.out) hb) (below_step zz31 hb) (hbox) ((zz91 : w.heap.size ≤ gb307)) ((zz91 : w.heap.size ≤ gb307)) ((by rw [hg]; exact Nat.ne_of_lt (blk_lt (qb BK306.out)) : gb306 ≠ gb307)) ((by rw [hg]; exact Nat.ne_of_gt (blk_lt (qb BK306.out)) : gb307 ≠ gb306)) ?_; clear BK306 HB; intro BK306 HB BK307 GW307 GE307 NB306_307 NB307_306; clear hb hbox hg; have hnb23 := NB306_307.out; have hnc23 := NB307_306.out; obtain ⟨hcz24_0, hcz24_1, hcz24_2, hfz24_0, hfz24_1, hfz24_2⟩ := qc3 BK306.out; obtain ⟨hcz25_0, hcz25_1, hcz25_2, hfz25_0, hfz25_1, hfz25_2⟩ := qc3 BK307.out))
    go_ret
    exact ⟨zz9, zz65⟩
  rw [if_pos c3] at H
  have c3b0 := beq_iff_eq.mpr c3
  have c3b1 := bne_eq_false_iff_eq.mpr c3
  clear c3
  by_cases c4 : a0_1.toList = a1_1.toList
  rotate_left
  · rw [if_neg c4] at H
    have c4b0 := beq_eq_false_iff_ne.mpr c4
    have c4b1 := bne_iff_ne.mpr c4
    obtain rfl := Option.some.inj H
    go_enter Tryd.func51, Tryd.ntmps51
    go_wp2_with (first | ((with_reducible refine gate_dst (N := 2) rfl ?_); refine qbox (N := 2) (cs := #[.string a0_0, .string a0_1, .int .i64 a0_2]) (t := 52) ?_; intro gb306 hg w16 hbox hb; refine qs4 (below_step zz20 hb) (hbox) ((zz87 : w.heap.size ≤ gb306)) ((zz87 : w.heap.size ≤ gb306)) ?_; clear HB; intro HB BK306 GW306 GE306; clear hb hbox hg) | ((with_reducible refine gate_dst (N := 3) rfl ?_); refine qbox (N := 3) (cs := #[.string a1_0, .string a1_1, .int .i64 a1_2]) (t := 52) ?_; intro gb307 hg w17 hbox hb; refine qs7 (blk_below (qb BK306.out) hb) (below_step zz31 hb) (hbox) ((zz91 : w.heap.size ≤ gb307)) ((zz91 : w.heap.size ≤ gb307)) ((by rw [hg]; exact Nat.ne_of_lt (blk_lt (qb BK306.out)) : gb306 ≠ gb307)) ((by rw [hg]; exact Nat.ne_of_gt (blk_lt (qb BK306.out)) : gb307 ≠ gb306)) ?_; clear BK306 HB; intro BK306 HB BK307 GW307 GE307 NB306_307 NB307_306; clear hb hbox hg; have hnb18 := NB306_307.out; have hnc18 := NB307_306.out; obtain ⟨hcz19_0, hcz19_1, hcz19_2, hfz19_0, hfz19_1, hfz19_2⟩ := qc3 BK306.out; obtain ⟨hcz20_0, hcz20_1, hcz20_2, hfz20_0, hfz20_1, hfz20_2⟩ := qc3 BK307.out))
    go_ret
    exact ⟨zz9, zz65⟩
  rw [if_pos c4] at H
  have c4b0 := beq_iff_eq.mpr c4
  have c4b1 := bne_eq_false_iff_eq.mpr c4
  clear c4
  by_cases c5 : a0_2 = a1_2
  rotate_left
  · rw [if_neg c5] at H
    have c5b0 := beq_eq_false_iff_ne.mpr c5
    have c5b1 := bne_iff_ne.mpr c5
    obtain rfl := Option.some.inj H
    go_enter Tryd.func51, Tryd.ntmps51
    go_wp2_with (first | ((with_reducible refine gate_dst (N := 2) rfl ?_); refine qbox (N := 2) (cs := #[.string a0_0, .string a0_1, .int .i64 a0_2]) (t := 52) ?_; intro gb306 hg w11 hbox hb; refine qs4 (below_step zz20 hb) (hbox) ((zz87 : w.heap.size ≤ gb306)) ((zz87 : w.heap.size ≤ gb306)) ?_; clear HB; intro HB BK306 GW306 GE306; clear hb hbox hg) | ((with_reducible refine gate_dst (N := 3) rfl ?_); refine qbox (N := 3) (cs := #[.string a1_0, .string a1_1, .int .i64 a1_2]) (t := 52) ?_; intro gb307 hg w12 hbox hb; refine qs7 (blk_below (qb BK306.out) hb) (below_step zz31 hb) (hbox) ((zz91 : w.heap.size ≤ gb307)) ((zz91 : w.heap.size ≤ gb307)) ((by rw [hg]; exact Nat.ne_of_lt (blk_lt (qb BK306.out)) : gb306 ≠ gb307)) ((by rw [hg]; exact Nat.ne_of_gt (blk_lt (qb BK306.out)) : gb307 ≠ gb306)) ?_; clear BK306 HB; intro BK306 HB BK307 GW307 GE307 NB306_307 NB307_306; clear hb hbox hg; have hnb13 := NB306_307.out; have hnc13 := NB307_306.out; obtain ⟨hcz14_0, hcz14_1, hcz14_2, hfz14_0, hfz14_1, hfz14_2⟩ := qc3 BK306.out; obtain ⟨hcz15_0, hcz15_1, hcz15_2, hfz15_0, hfz15_1, hfz15_2⟩ := qc3 BK307.out))
    go_ret
    exact ⟨zz9, zz65⟩
  rw [if_pos c5] at H
  have c5b0 := beq_iff_eq.mpr c5
  have c5b1 := bne_eq_false_iff_eq.mpr c5
  clear c5
  obtain rfl := Option.some.inj H
  go_enter Tryd.func51, Tryd.ntmps51
  go_wp2_with (first | ((with_reducible refine gate_dst (N := 2) rfl ?_); refine qbox (N := 2) (cs := #[.string a0_0, .string a0_1, .int .i64 a0_2]) (t := 52) ?_; intro gb306 hg w6 hbox hb; refine qs4 (below_step zz20 hb) (hbox) ((zz87 : w.heap.size ≤ gb306)) ((zz87 : w.heap.size ≤ gb306)) ?_; clear HB; intro HB BK306 GW306 GE306; clear hb hbox hg) | ((with_reducible refine gate_dst (N := 3) rfl ?_); refine qbox (N := 3) (cs := #[.string a1_0, .string a1_1, .int .i64 a1_2]) (t := 52) ?_; intro gb307 hg w7 hbox hb; refine qs7 (blk_below (qb BK306.out) hb) (below_step zz31 hb) (hbox) ((zz91 : w.heap.size ≤ gb307)) ((zz91 : w.heap.size ≤ gb307)) ((by rw [hg]; exact Nat.ne_of_lt (blk_lt (qb BK306.out)) : gb306 ≠ gb307)) ((by rw [hg]; exact Nat.ne_of_gt (blk_lt (qb BK306.out)) : gb307 ≠ gb306)) ?_; clear BK306 HB; intro BK306 HB BK307 GW307 GE307 NB306_307 NB307_306; clear hb hbox hg; have hnb8 := NB306_307.out; have hnc8 := NB307_306.out; obtain ⟨hcz9_0, hcz9_1, hcz9_2, hfz9_0, hfz9_1, hfz9_2⟩ := qc3 BK306.out; obtain ⟨hcz10_0, hcz10_1, hcz10_2, hfz10_0, hfz10_1, hfz10_2⟩ := qc3 BK307.out))
  go_ret
  exact ⟨zz9, zz65⟩


/-! ### laws_eqConsole: function 28 -/
def laws_eqConsole.f (k : Nat) (a0_0 : Int) (a0_1 : Int) (l0_2 : List (S62)) (a0_3 : Int) (a0_4 : ByteArray) (a0_5 : ByteArray) (a0_6 : Int) (a1_0 : Int) (a1_1 : Int) (l1_2 : List (S62)) (a1_3 : Int) (a1_4 : ByteArray) (a1_5 : ByteArray) (a1_6 : Int) : Option (Bool) := (laws_eqShop.f k a0_0 a0_1 l0_2 a0_3 a1_0 a1_1 l1_2 a1_3).bind fun t310 => (if t310 = true then ((laws_eqLog.f a0_4 a0_5 a0_6 a1_4 a1_5 a1_6).bind fun t311 => (if t311 = true then (some true) else (some false))) else (some false))
set_option maxHeartbeats 8000000 in
set_option maxRecDepth 100000 in
theorem laws_eqConsole.calls (k : Nat) (a0_0 : Int) (a0_1 : Int) (A0_2 : Option Addr) (c0_2 : Nat) (l0_2 : List (S62)) (a0_3 : Int) (a0_4 : ByteArray) (a0_5 : ByteArray) (a0_6 : Int) (a1_0 : Int) (a1_1 : Int) (A1_2 : Option Addr) (c1_2 : Nat) (l1_2 : List (S62)) (a1_3 : Int) (a1_4 : ByteArray) (a1_5 : ByteArray) (a1_6 : Int) (r : Bool) (w : World) (hr0_2 : Kd.C k62 w A0_2 l0_2.length l0_2) (hc0_2 : l0_2.length ≤ c0_2) (hr1_2 : Kd.C k62 w A1_2 l1_2.length l1_2) (hc1_2 : l1_2.length ≤ c1_2) (h : laws_eqConsole.f k a0_0 a0_1 l0_2 a0_3 a0_4 a0_5 a0_6 a1_0 a1_1 l1_2 a1_3 a1_4 a1_5 a1_6 = some r) :
    Calls Tryd.prog 28 #[.agg #[.int .i64 a0_0, .int .i64 a0_1, .slice A0_2 l0_2.length c0_2, .int .i64 a0_3, .string a0_4, .string a0_5, .int .i64 a0_6], .agg #[.int .i64 a1_0, .int .i64 a1_1, .slice A1_2 l1_2.length c1_2, .int .i64 a1_3, .string a1_4, .string a1_5, .int .i64 a1_6]] w fun e w' => e = .returned (.bool r) ∧ Below w.heap.size w w' := by
  have hu54 := Tryd.underlying54
  have hu26 := Tryd.underlying26
  have hu52 := Tryd.underlying52
  have HR0_2 := Aside0.mk hr0_2
  have HC0_2 := Aside0.mk hc0_2
  clear hr0_2 hc0_2
  have HR1_2 := Aside0.mk hr1_2
  have HC1_2 := Aside0.mk hc1_2
  clear hr1_2 hc1_2
  have HB := Aside0.mk (Below.refl w.heap.size w)
  unfold laws_eqConsole.f at h
  have H := h
  clear h
  replace H := Option.bind_eq_some_iff.mp H
  obtain ⟨t310, A30, H⟩ := H
  (try dsimp only at H)
  have A3 := Aside0.mk A30
  clear A30
  by_cases c4 : t310 = true
  rotate_left
  · replace c4 := Bool.eq_false_iff.mpr c4
    subst c4
    rw [if_neg (show ¬ (false = true) by decide)] at H
    obtain rfl := Option.some.inj H
    go_enter Tryd.func28, Tryd.ntmps28
    go_wp2_with (first | ((with_reducible refine gate_dst (N := 2) rfl ?_); refine qbox (N := 2) (cs := #[.int .i64 a0_0, .int .i64 a0_1, .slice A0_2 l0_2.length c0_2, .int .i64 a0_3, .string a0_4, .string a0_5, .int .i64 a0_6]) (t := 54) ?_; intro gb308 hg w25 hbox hb; refine qs4 (below_step zz20 hb) (hbox) ((zz87 : w.heap.size ≤ gb308)) ((zz87 : w.heap.size ≤ gb308)) ?_; clear HB; intro HB BK308 GW308 GE308; clear hb hbox hg) | ((with_reducible refine gate_dst (N := 3) rfl ?_); refine qbox (N := 3) (cs := #[.int .i64 a1_0, .int .i64 a1_1, .slice A1_2 l1_2.length c1_2, .int .i64 a1_3, .string a1_4, .string a1_5, .int .i64 a1_6]) (t := 54) ?_; intro gb309 hg w26 hbox hb; refine qs7 (blk_below (qb BK308.out) hb) (below_step zz37 hb) (hbox) ((by rw [hg]; exact (below_size zz37) : w.heap.size ≤ gb309)) ((by rw [hg]; exact (below_size zz37) : w.heap.size ≤ gb309)) ((by rw [hg]; exact Nat.ne_of_lt (blk_lt (qb BK308.out)) : gb308 ≠ gb309)) ((by rw [hg]; exact Nat.ne_of_gt (blk_lt (qb BK308.out)) : gb309 ≠ gb308)) ?_; clear BK308 HB; intro BK308 HB BK309 GW309 GE309 NB308_309 NB309_308; clear hb hbox hg; have hnb27 := NB308_309.out; have hnc27 := NB309_308.out; obtain ⟨hcz28_0, hcz28_1, hcz28_2, hcz28_3, hcz28_4, hcz28_5, hcz28_6, hfz28_0, hfz28_1, hfz28_2, hfz28_3, hfz28_4, hfz28_5, hfz28_6⟩ := qc7 BK308.out; obtain ⟨hcz29_0, hcz29_1, hcz29_2, hcz29_3, hcz29_4, hcz29_5, hcz29_6, hfz29_0, hfz29_1, hfz29_2, hfz29_3, hfz29_4, hfz29_5, hfz29_6⟩ := qc7 BK309.out) | ((with_reducible refine gate_callee (f := 50) rfl ?_); refine qcall 9 Tryd.func50 rfl #[.agg #[.int .i64 a0_0, .int .i64 a0_1, .slice A0_2 l0_2.length c0_2, .int .i64 a0_3], .agg #[.int .i64 a1_0, .int .i64 a1_1, .slice A1_2 l1_2.length c1_2, .int .i64 a1_3]] ?_; (with_reducible refine (laws_eqShop.calls k a0_0 a0_1 _ _ l0_2 a0_3 a1_0 a1_1 _ _ l1_2 a1_3 false _ ?side1 ?side2 ?side3 ?side4 A3.out).mono ?_); (case side1 => exact zz54); (case side2 => exact zz0); (case side3 => exact zz55); (case side4 => exact HC1_2.out); rintro e w30 ⟨rfl, hb⟩; refine ⟨_, rfl, ?_⟩; refine qs3 (blk_below (qb BK308.out) hb) (blk_below (qb BK309.out) hb) (below_step zz61 hb) ?_; clear BK308 BK309 HB; intro BK308 BK309 HB; (try clear hb); (try clear hb2); (try clear hk); (try clear hi)))
    go_ret
    exact ⟨zz9, zz61⟩
  subst c4
  rw [if_pos rfl] at H
  replace H := Option.bind_eq_some_iff.mp H
  obtain ⟨t311, A50, H⟩ := H
  (try dsimp only at H)
  have A5 := Aside0.mk A50
  clear A50
  by_cases c6 : t311 = true
  · subst c6
    rw [if_pos rfl] at H
    obtain rfl := Option.some.inj H
    go_enter Tryd.func28, Tryd.ntmps28
    go_wp2_with (first | ((with_reducible refine gate_dst (N := 2) rfl ?_); refine qbox (N := 2) (cs := #[.int .i64 a0_0, .int .i64 a0_1, .slice A0_2 l0_2.length c0_2, .int .i64 a0_3, .string a0_4, .string a0_5, .int .i64 a0_6]) (t := 54) ?_; intro gb308 hg w7 hbox hb; refine qs4 (below_step zz20 hb) (hbox) ((zz87 : w.heap.size ≤ gb308)) ((zz87 : w.heap.size ≤ gb308)) ?_; clear HB; intro HB BK308 GW308 GE308; clear hb hbox hg) | ((with_reducible refine gate_dst (N := 3) rfl ?_); refine qbox (N := 3) (cs := #[.int .i64 a1_0, .int .i64 a1_1, .slice A1_2 l1_2.length c1_2, .int .i64 a1_3, .string a1_4, .string a1_5, .int .i64 a1_6]) (t := 54) ?_; intro gb309 hg w8 hbox hb; refine qs7 (blk_below (qb BK308.out) hb) (below_step zz37 hb) (hbox) ((by rw [hg]; exact (below_size zz37) : w.heap.size ≤ gb309)) ((by rw [hg]; exact (below_size zz37) : w.heap.size ≤ gb309)) ((by rw [hg]; exact Nat.ne_of_lt (blk_lt (qb BK308.out)) : gb308 ≠ gb309)) ((by rw [hg]; exact Nat.ne_of_gt (blk_lt (qb BK308.out)) : gb309 ≠ gb308)) ?_; clear BK308 HB; intro BK308 HB BK309 GW309 GE309 NB308_309 NB309_308; clear hb hbox hg; have hnb9 := NB308_309.out; have hnc9 := NB309_308.out; obtain ⟨hcz10_0, hcz10_1, hcz10_2, hcz10_3, hcz10_4, hcz10_5, hcz10_6, hfz10_0, hfz10_1, hfz10_2, hfz10_3, hfz10_4, hfz10_5, hfz10_6⟩ := qc7 BK308.out; obtain ⟨hcz11_0, hcz11_1, hcz11_2, hcz11_3, hcz11_4, hcz11_5, hcz11_6, hfz11_0, hfz11_1, hfz11_2, hfz11_3, hfz11_4, hfz11_5, hfz11_6⟩ := qc7 BK309.out) | ((with_reducible refine gate_callee (f := 50) rfl ?_); refine qcall 9 Tryd.func50 rfl #[.agg #[.int .i64 a0_0, .int .i64 a0_1, .slice A0_2 l0_2.length c0_2, .int .i64 a0_3], .agg #[.int .i64 a1_0, .int .i64 a1_1, .slice A1_2 l1_2.length c1_2, .int .i64 a1_3]] ?_; (with_reducible refine (laws_eqShop.calls k a0_0 a0_1 _ _ l0_2 a0_3 a1_0 a1_1 _ _ l1_2 a1_3 true _ ?side1 ?side2 ?side3 ?side4 A3.out).mono ?_); (case side1 => exact zz54); (case side2 => exact zz0); (case side3 => exact zz55); (case side4 => exact HC1_2.out); rintro e w12 ⟨rfl, hb⟩; refine ⟨_, rfl, ?_⟩; refine qs3 (blk_below (qb BK308.out) hb) (blk_below (qb BK309.out) hb) (below_step zz61 hb) ?_; clear BK308 BK309 HB; intro BK308 BK309 HB; (try clear hb); (try clear hb2); (try clear hk); (try clear hi); obtain ⟨hcz13_0, hcz13_1, hcz13_2, hcz13_3, hcz13_4, hcz13_5, hcz13_6, hfz13_0, hfz13_1, hfz13_2, hfz13_3, hfz13_4, hfz13_5, hfz13_6⟩ := qc7 BK308.out; obtain ⟨hcz14_0, hcz14_1, hcz14_2, hcz14_3, hcz14_4, hcz14_5, hcz14_6, hfz14_0, hfz14_1, hfz14_2, hfz14_3, hfz14_4, hfz14_5, hfz14_6⟩ := qc7 BK309.out) | ((with_reducible refine gate_callee (f := 51) rfl ?_); refine qcall 15 Tryd.func51 rfl #[.agg #[.string a0_4, .string a0_5, .int .i64 a0_6], .agg #[.string a1_4, .string a1_5, .int .i64 a1_6]] ?_; (with_reducible refine (laws_eqLog.calls a0_4 a0_5 a0_6 a1_4 a1_5 a1_6 true _ A5.out).mono ?_); rintro e w15 ⟨rfl, hb⟩; refine ⟨_, rfl, ?_⟩; refine qs3 (blk_below (qb BK308.out) hb) (blk_below (qb BK309.out) hb) (below_step zz61 hb) ?_; clear BK308 BK309 HB; intro BK308 BK309 HB; (try clear hb); (try clear hb2); (try clear hk); (try clear hi)))
    go_ret
    exact ⟨zz9, zz61⟩
  replace c6 := Bool.eq_false_iff.mpr c6
  subst c6
  rw [if_neg (show ¬ (false = true) by decide)] at H
  obtain rfl := Option.some.inj H
  go_enter Tryd.func28, Tryd.ntmps28
  go_wp2_with (first | ((with_reducible refine gate_dst (N := 2) rfl ?_); refine qbox (N := 2) (cs := #[.int .i64 a0_0, .int .i64 a0_1, .slice A0_2 l0_2.length c0_2, .int .i64 a0_3, .string a0_4, .string a0_5, .int .i64 a0_6]) (t := 54) ?_; intro gb308 hg w16 hbox hb; refine qs4 (below_step zz20 hb) (hbox) ((zz87 : w.heap.size ≤ gb308)) ((zz87 : w.heap.size ≤ gb308)) ?_; clear HB; intro HB BK308 GW308 GE308; clear hb hbox hg) | ((with_reducible refine gate_dst (N := 3) rfl ?_); refine qbox (N := 3) (cs := #[.int .i64 a1_0, .int .i64 a1_1, .slice A1_2 l1_2.length c1_2, .int .i64 a1_3, .string a1_4, .string a1_5, .int .i64 a1_6]) (t := 54) ?_; intro gb309 hg w17 hbox hb; refine qs7 (blk_below (qb BK308.out) hb) (below_step zz37 hb) (hbox) ((by rw [hg]; exact (below_size zz37) : w.heap.size ≤ gb309)) ((by rw [hg]; exact (below_size zz37) : w.heap.size ≤ gb309)) ((by rw [hg]; exact Nat.ne_of_lt (blk_lt (qb BK308.out)) : gb308 ≠ gb309)) ((by rw [hg]; exact Nat.ne_of_gt (blk_lt (qb BK308.out)) : gb309 ≠ gb308)) ?_; clear BK308 HB; intro BK308 HB BK309 GW309 GE309 NB308_309 NB309_308; clear hb hbox hg; have hnb18 := NB308_309.out; have hnc18 := NB309_308.out; obtain ⟨hcz19_0, hcz19_1, hcz19_2, hcz19_3, hcz19_4, hcz19_5, hcz19_6, hfz19_0, hfz19_1, hfz19_2, hfz19_3, hfz19_4, hfz19_5, hfz19_6⟩ := qc7 BK308.out; obtain ⟨hcz20_0, hcz20_1, hcz20_2, hcz20_3, hcz20_4, hcz20_5, hcz20_6, hfz20_0, hfz20_1, hfz20_2, hfz20_3, hfz20_4, hfz20_5, hfz20_6⟩ := qc7 BK309.out) | ((with_reducible refine gate_callee (f := 50) rfl ?_); refine qcall 9 Tryd.func50 rfl #[.agg #[.int .i64 a0_0, .int .i64 a0_1, .slice A0_2 l0_2.length c0_2, .int .i64 a0_3], .agg #[.int .i64 a1_0, .int .i64 a1_1, .slice A1_2 l1_2.length c1_2, .int .i64 a1_3]] ?_; (with_reducible refine (laws_eqShop.calls k a0_0 a0_1 _ _ l0_2 a0_3 a1_0 a1_1 _ _ l1_2 a1_3 true _ ?side1 ?side2 ?side3 ?side4 A3.out).mono ?_); (case side1 => exact zz54); (case side2 => exact zz0); (case side3 => exact zz55); (case side4 => exact HC1_2.out); rintro e w21 ⟨rfl, hb⟩; refine ⟨_, rfl, ?_⟩; refine qs3 (blk_below (qb BK308.out) hb) (blk_below (qb BK309.out) hb) (below_step zz61 hb) ?_; clear BK308 BK309 HB; intro BK308 BK309 HB; (try clear hb); (try clear hb2); (try clear hk); (try clear hi); obtain ⟨hcz22_0, hcz22_1, hcz22_2, hcz22_3, hcz22_4, hcz22_5, hcz22_6, hfz22_0, hfz22_1, hfz22_2, hfz22_3, hfz22_4, hfz22_5, hfz22_6⟩ := qc7 BK308.out; obtain ⟨hcz23_0, hcz23_1, hcz23_2, hcz23_3, hcz23_4, hcz23_5, hcz23_6, hfz23_0, hfz23_1, hfz23_2, hfz23_3, hfz23_4, hfz23_5, hfz23_6⟩ := qc7 BK309.out) | ((with_reducible refine gate_callee (f := 51) rfl ?_); refine qcall 15 Tryd.func51 rfl #[.agg #[.string a0_4, .string a0_5, .int .i64 a0_6], .agg #[.string a1_4, .string a1_5, .int .i64 a1_6]] ?_; (with_reducible refine (laws_eqLog.calls a0_4 a0_5 a0_6 a1_4 a1_5 a1_6 false _ A5.out).mono ?_); rintro e w24 ⟨rfl, hb⟩; refine ⟨_, rfl, ?_⟩; refine qs3 (blk_below (qb BK308.out) hb) (blk_below (qb BK309.out) hb) (below_step zz61 hb) ?_; clear BK308 BK309 HB; intro BK308 BK309 HB; (try clear hb); (try clear hb2); (try clear hk); (try clear hi)))
  go_ret
  exact ⟨zz9, zz61⟩


/-! ### laws_FnExactIsValidConsole: function 4 -/
end Go.Proofs.YtneaeaoemhghdaaDoor.G

-- Written by a program of this session (wip/pd.py), which calls the kit's print; externals' contracts by hand.
namespace Go.Proofs.YtneaeaoemhghdaaDoor.G
open Go.Proofs.YtneaeaoemhghdaaDoorQ
open Go.RowKit Go.Proofs.YtneaeaoemhghdaaDoorW.PrintWords Go.Proofs.YtneaeaoemhghdaaDoorW.PrintLast Go.Proofs.YtneaeaoemhghdaaDoorW.PrintMore
attribute [local go_sem] max2_int min2_int max_two min_two max_three min_three max_four min_four   -- for this text's walks alone
set_option linter.unusedVariables false
set_option linter.unusedSimpArgs false

section
attribute [local go_sem high] run_add_cat run_slice_cat run_slice_cat_h run_slice_cat_l run_slice_cat_all
/-! ### spec_l25Text: function 43 -/
def spec_l25Text.f (a0_0 : Int) (a0_1 : Int) (a0_2 : Int) (a0_3 : Int) (a0_4 : Int) : Option (ByteArray) := (some (([(⟨#[119, 97, 105, 116, 115]⟩ : ByteArray), (⟨#[119, 111, 118, 101, 110]⟩ : ByteArray), (⟨#[111, 102, 102]⟩ : ByteArray), (⟨#[119, 97, 115, 104, 101, 100]⟩ : ByteArray), (⟨#[115, 111, 108, 100]⟩ : ByteArray)] : List ByteArray) : List ByteArray)).bind fun y346 => (if 0 ≤ a0_2 then (if a0_2 < (y346.length : Int) then (if (rdOf ByteArray.empty y346 a0_2).size + 1 ≤ 9223372036854775807 then ((spec_l1Num.f a0_1).bind fun t350 => (if (cat (rdOf ByteArray.empty y346 a0_2) (⟨#[32]⟩ : ByteArray)).size + t350.size ≤ 9223372036854775807 then (if (cat (cat (rdOf ByteArray.empty y346 a0_2) (⟨#[32]⟩ : ByteArray)) t350).size + 1 ≤ 9223372036854775807 then ((spec_l1Num.f a0_0).bind fun t351 => (if (cat (cat (cat (rdOf ByteArray.empty y346 a0_2) (⟨#[32]⟩ : ByteArray)) t350) (⟨#[47]⟩ : ByteArray)).size + t351.size ≤ 9223372036854775807 then (if a0_3 > 0 then (if (cat (cat (cat (cat (rdOf ByteArray.empty y346 a0_2) (⟨#[32]⟩ : ByteArray)) t350) (⟨#[47]⟩ : ByteArray)) t351).size + 4 ≤ 9223372036854775807 then ((spec_l1Num.f a0_3).bind fun t352 => (if (cat (cat (cat (cat (cat (rdOf ByteArray.empty y346 a0_2) (⟨#[32]⟩ : ByteArray)) t350) (⟨#[47]⟩ : ByteArray)) t351) (⟨#[32, 111, 110, 32]⟩ : ByteArray)).size + t352.size ≤ 9223372036854775807 then (some (cat (cat (cat (cat (cat (cat (rdOf ByteArray.empty y346 a0_2) (⟨#[32]⟩ : ByteArray)) t350) (⟨#[47]⟩ : ByteArray)) t351) (⟨#[32, 111, 110, 32]⟩ : ByteArray)) t352)) else (none))) else (none)) else (some (cat (cat (cat (cat (rdOf ByteArray.empty y346 a0_2) (⟨#[32]⟩ : ByteArray)) t350) (⟨#[47]⟩ : ByteArray)) t351))) else (none))) else (none)) else (none))) else (none)) else (none)) else (none))
def spec_l25Text.T1 : Bool × List (List Nat × List Nat) := (true, [([], []), ([], []), ([1], [1]), ([0, 2], [0, 2]), ([3], [3]), ([4], [4]), ([], []), ([6], [6]), ([7], [7]), ([5, 8], [5, 8]), ([9], [9]), ([], []), ([11], [11]), ([12, 8], [12]), ([10, 13], [10, 13]), ([14, 13, 0, 1, 2, 3, 4, 5, 6, 7, 8, 9, 10, 11, 12, 13, 14], [14])])
def spec_l25Text.B1 : List Nat := [0, 0, 2, 7, 15, 31, 0, 64, 192, 511, 1023, 0, 2048, 6592, 16383, 32767]
theorem spec_l25Text.tab1 : rtab .any (opsOf Tryd.f43 1) = spec_l25Text.T1 := by kernel_rfl
theorem spec_l25Text.bits1 : waitsOk spec_l25Text.T1.2 spec_l25Text.B1 = true := by kernel_rfl
set_option maxHeartbeats 8000000 in
set_option maxRecDepth 100000 in
theorem spec_l25Text.calls (a0_0 : Int) (a0_1 : Int) (a0_2 : Int) (a0_3 : Int) (a0_4 : Int) (r : ByteArray) (w : World) (h : spec_l25Text.f a0_0 a0_1 a0_2 a0_3 a0_4 = some r) :
    Calls Tryd.prog 43 #[.agg #[.int .i64 a0_0, .int .i64 a0_1, .int .i64 a0_2, .int .i64 a0_3, .int .i64 a0_4]] w fun e w' => e = .returned (.string r) ∧ Below w.heap.size w w' := by
  have hu62 := Tryd.underlying62
  have HB := Aside0.mk (Below.refl w.heap.size w)
  unfold spec_l25Text.f at h
  have H := h
  clear h
  obtain ⟨y346, hy346⟩ : ∃ y_ : List ByteArray, y_ = (([(⟨#[119, 97, 105, 116, 115]⟩ : ByteArray), (⟨#[119, 111, 118, 101, 110]⟩ : ByteArray), (⟨#[111, 102, 102]⟩ : ByteArray), (⟨#[119, 97, 115, 104, 101, 100]⟩ : ByteArray), (⟨#[115, 111, 108, 100]⟩ : ByteArray)] : List ByteArray)) := ⟨_, rfl⟩
  replace H : (if 0 ≤ a0_2 then (if a0_2 < (y346.length : Int) then (if (rdOf ByteArray.empty y346 a0_2).size + 1 ≤ 9223372036854775807 then ((spec_l1Num.f a0_1).bind fun t350 => (if (cat (rdOf ByteArray.empty y346 a0_2) (⟨#[32]⟩ : ByteArray)).size + t350.size ≤ 9223372036854775807 then (if (cat (cat (rdOf ByteArray.empty y346 a0_2) (⟨#[32]⟩ : ByteArray)) t350).size + 1 ≤ 9223372036854775807 then ((spec_l1Num.f a0_0).bind fun t351 => (if (cat (cat (cat (rdOf ByteArray.empty y346 a0_2) (⟨#[32]⟩ : ByteArray)) t350) (⟨#[47]⟩ : ByteArray)).size + t351.size ≤ 9223372036854775807 then (if a0_3 > 0 then (if (cat (cat (cat (cat (rdOf ByteArray.empty y346 a0_2) (⟨#[32]⟩ : ByteArray)) t350) (⟨#[47]⟩ : ByteArray)) t351).size + 4 ≤ 9223372036854775807 then ((spec_l1Num.f a0_3).bind fun t352 => (if (cat (cat (cat (cat (cat (rdOf ByteArray.empty y346 a0_2) (⟨#[32]⟩ : ByteArray)) t350) (⟨#[47]⟩ : ByteArray)) t351) (⟨#[32, 111, 110, 32]⟩ : ByteArray)).size + t352.size ≤ 9223372036854775807 then (some (cat (cat (cat (cat (cat (cat (rdOf ByteArray.empty y346 a0_2) (⟨#[32]⟩ : ByteArray)) t350) (⟨#[47]⟩ : ByteArray)) t351) (⟨#[32, 111, 110, 32]⟩ : ByteArray)) t352)) else (none))) else (none)) else (some (cat (cat (cat (cat (rdOf ByteArray.empty y346 a0_2) (⟨#[32]⟩ : ByteArray)) t350) (⟨#[47]⟩ : ByteArray)) t351))) else (none))) else (none)) else (none))) else (none)) else (none)) else (none)) = some r := by first | (rw [hy346]; with_reducible exact H) | (have H2_ := (Option.bind_some _ _).symm.trans H; rw [hy346]; with_reducible exact H2_) | (have H2_ := (Option.bind_some _ _).symm.trans H; with_reducible exact H2_) | with_reducible exact H | (rw [hy346]; exact H) | exact H
  have Ny346 := Aside0.mk hy346
  clear hy346
  by_cases c2 : 0 ≤ a0_2
  rotate_left
  · rw [if_neg c2] at H
    exact absurd H (by simp)
  rw [if_pos c2] at H
  have c2b0 := decide_eq_true c2
  clear c2
  by_cases c3 : a0_2 < (y346.length : Int)
  rotate_left
  · rw [if_neg c3] at H
    exact absurd H (by simp)
  rw [if_pos c3] at H
  have c3b0 := decide_eq_true c3
  clear c3
  by_cases c4 : (rdOf ByteArray.empty y346 a0_2).size + 1 ≤ 9223372036854775807
  rotate_left
  · rw [if_neg c4] at H
    exact absurd H (by simp)
  rw [if_pos c4] at H
  have c4b0 := eq_true c4
  have c4b1 := decide_eq_true c4
  try have c4b2 := eq_false (Nat.not_lt.2 c4)
  clear c4
  replace H := Option.bind_eq_some_iff.mp H
  obtain ⟨t350, A50, H⟩ := H
  (try dsimp only at H)
  have A5 := Aside0.mk A50
  clear A50
  by_cases c6 : (cat (rdOf ByteArray.empty y346 a0_2) (⟨#[32]⟩ : ByteArray)).size + t350.size ≤ 9223372036854775807
  rotate_left
  · rw [if_neg c6] at H
    exact absurd H (by simp)
  rw [if_pos c6] at H
  have c6b0 := eq_true c6
  have c6b1 := decide_eq_true c6
  try have c6b2 := eq_false (Nat.not_lt.2 c6)
  clear c6
  by_cases c7 : (cat (cat (rdOf ByteArray.empty y346 a0_2) (⟨#[32]⟩ : ByteArray)) t350).size + 1 ≤ 9223372036854775807
  rotate_left
  · rw [if_neg c7] at H
    exact absurd H (by simp)
  rw [if_pos c7] at H
  have c7b0 := eq_true c7
  have c7b1 := decide_eq_true c7
  try have c7b2 := eq_false (Nat.not_lt.2 c7)
  clear c7
  replace H := Option.bind_eq_some_iff.mp H
  obtain ⟨t351, A80, H⟩ := H
  (try dsimp only at H)
  have A8 := Aside0.mk A80
  clear A80
  by_cases c9 : (cat (cat (cat (rdOf ByteArray.empty y346 a0_2) (⟨#[32]⟩ : ByteArray)) t350) (⟨#[47]⟩ : ByteArray)).size + t351.size ≤ 9223372036854775807
  rotate_left
  · rw [if_neg c9] at H
    exact absurd H (by simp)
  rw [if_pos c9] at H
  have c9b0 := eq_true c9
  have c9b1 := decide_eq_true c9
  try have c9b2 := eq_false (Nat.not_lt.2 c9)
  clear c9
  by_cases c10 : a0_3 > 0
  rotate_left
  · rw [if_neg c10] at H
    have c10b0 := decide_eq_false c10
    clear c10
    obtain rfl := Option.some.inj H
    go_enter Tryd.func43, Tryd.ntmps43
    try go_wp2_with (first | ((with_reducible refine gate_dst (N := 1) rfl ?_); refine qbox (N := 1) (cs := #[.int .i64 a0_0, .int .i64 a0_1, .int .i64 a0_2, .int .i64 a0_3, .int .i64 a0_4]) (t := 62) ?_; intro gb345 hg w25 hbox hb; refine qs4 (below_step zz20 hb) (hbox) ((zz87 : w.heap.size ≤ gb345)) ((zz87 : w.heap.size ≤ gb345)) ?_; clear HB; intro HB BK345 GW345 GE345; clear hb hbox hg))
    have pi349 : (0 ≤ (a0_2 : Int)) = True := eq_true (of_decide_eq_true zz5)
    have qi349 : (a0_2 < (y346.length : Int)) = True := eq_true (of_decide_eq_true zz5)
    refine qs2 (blk_drew BK345.out) (below_drew1 HB.out) ?_; clear BK345 HB; intro BK345 HB
    refine start_ (n := 16) (S := fun w' => True) (ds := []) #[false, false, false, false, false, false, false, false, false, false, false, false, false, false, false, false] (by kernel_rfl) rfl rfl trivial (fun hHeld => ?_); refine with_tabW spec_l25Text.tab1 spec_l25Text.bits1 (fun HT_ HW_ => ?_)
    generalize w25.drew = w26 at BK345 HB hHeld ⊢
    refine qp 1 5 ?_; refine qp 6 10 ?_; refine qp 11 15 ?_
    refine inv_at [0, 2, 3, 4, 5, 7, 8, 9, 10, 12, 13, 14, 15] (fun a0_ b a w' => ∃ (v347 : Value) (adz_v347 : Addr) (m3_ : Value), a = putSel a0_ b [(0, 4, v347), (2, 6, .int .i64 a0_2), (3, 7, m3_), (4, 8, .string (rdOf ByteArray.empty y346 a0_2)), (5, 9, .string (cat (rdOf ByteArray.empty y346 a0_2) (⟨#[32]⟩ : ByteArray))), (7, 11, .int .i64 a0_1), (8, 12, .string t350), (9, 13, .string (cat (cat (rdOf ByteArray.empty y346 a0_2) (⟨#[32]⟩ : ByteArray)) t350)), (10, 14, .string (cat (cat (cat (rdOf ByteArray.empty y346 a0_2) (⟨#[32]⟩ : ByteArray)) t350) (⟨#[47]⟩ : ByteArray))), (12, 16, .int .i64 a0_0), (13, 17, .string t351), (14, 18, .string (cat (cat (cat (cat (rdOf ByteArray.empty y346 a0_2) (⟨#[32]⟩ : ByteArray)) t350) (⟨#[47]⟩ : ByteArray)) t351)), (15, 3, .string (cat (cat (cat (cat (rdOf ByteArray.empty y346 a0_2) (⟨#[32]⟩ : ByteArray)) t350) (⟨#[47]⟩ : ByteArray)) t351))] ∧ (w'.heap[gb345]? = some (.cells #[.int .i64 a0_0, .int .i64 a0_1, .int .i64 a0_2, .int .i64 a0_3, .int .i64 a0_4] 62 (0, 0))) ∧ (Below w.heap.size w w') ∧ (b 0 = true → Kd.R Kd.string 9 w' w.heap.size (fun _ => True) v347 y346) ∧ (b 0 = true → ∃ c_, (v347 : Value) = .slice (some adz_v347) y346.length c_) ∧ (b 3 = true → (m3_ : Value) = .pointer (some (adz_v347.add (a0_2).toNat)))) HT_.out HW_.out (by kernel_rfl) (by kernel_rfl) ?_ ?_ ?_
    · exact ⟨.bool false, ⟨0, 0, none⟩, .bool false, by simp only [putSel, Bool.false_eq_true, if_false], BK345.out, HB.out, fun h_ => absurd h_ (by decide), fun h_ => absurd h_ (by decide), fun h_ => absurd h_ (by decide)⟩
    · skip
      clear BK345 HB
      refine steps_cons ?_ ?_
      · rintro b a w' ⟨v347, adz_v347, m3_, ha, Q_BK345, Q_HB, Q_HO348, Q_HA_HO348, Q_X3_⟩ hb_ hon hoff
        refine ⟨_, rfl, fun K hK => ?_⟩
        replace ha := Aside0.mk ha
        have BK345 := Aside0.mk Q_BK345
        have HB := Aside0.mk Q_HB
        refine Kd.R_lit_step Kd.string _ 9 ?hg (N := 4) ?hd (xs := ([(⟨#[119, 97, 105, 116, 115]⟩ : ByteArray), (⟨#[119, 111, 118, 101, 110]⟩ : ByteArray), (⟨#[111, 102, 102]⟩ : ByteArray), (⟨#[119, 97, 115, 104, 101, 100]⟩ : ByteArray), (⟨#[115, 111, 108, 100]⟩ : ByteArray)] : List ByteArray)) (inner := [.string (⟨#[119, 97, 105, 116, 115]⟩ : ByteArray), .string (⟨#[119, 111, 118, 101, 110]⟩ : ByteArray), .string (⟨#[111, 102, 102]⟩ : ByteArray), .string (⟨#[119, 97, 115, 104, 101, 100]⟩ : ByteArray), .string (⟨#[115, 111, 108, 100]⟩ : ByteArray)]) (ok := fun _ => True) (okp := fun _ => True) ?hr ?hp (fun _ hk => hk) trivial (Below.refl _ _) (Nat.le_refl _) (by simp) ?_; (case hd => rfl); (case hg => rfl); (case hr => exact zz3); (case hp => exact zz83)
        intro v347 w27 ho28 hb hg_ hnew_
        clear hg_ hnew_
        (first | rw [← Ny346.out] at ho28 | (simp only [Int.reduceToNat] at ho28; rw [← Ny346.out] at ho28))
        refine qs3 (Kd.R_lower ho28 (below_size zz27)) (blk_below (qb BK345.out) hb) (below_step zz27 hb) ?_; clear BK345 HB; intro HO348 BK345 HB
        clear hb ho28
        obtain ⟨Ao29, co29, eo29⟩ := Kd.R_slice HO348.out
        subst eo29
        obtain ⟨ado29, fo29, _⟩ := Kd.at_string (Kd.R_reads' HO348.out).2.2 0 (by decide) (by rw [Ny346.out]; simp)
        cases fo29
        refine hK.out _ _ ⟨.slice (some ado29) y346.length co29, ado29, m3_, (by rw [ha.out]; exact putSel_upk 0 hb_ rfl rfl rfl), (qb BK345.out), zz27, fun _ => (qr HO348.out), fun _ => ⟨_, rfl⟩, fun h0_ => absurd ((hoff 3 (by kernel_rfl)).symm.trans h0_) (by decide)⟩
      refine steps_cons ?_ ?_
      · rintro b a w' ⟨v347, adz_v347, m3_, ha, Q_BK345, Q_HB, Q_HO348, Q_HA_HO348, Q_X3_⟩ hb_ hon hoff
        refine ⟨_, rfl, fun K hK => ?_⟩
        have e5 : a.tmps[5]? = some (.pointer (some ⟨gb345, 2, none⟩)) := by rw [ha]; exact (putSel_off rfl).trans rfl
        replace ha := Aside0.mk ha
        have BK345 := Aside0.mk Q_BK345
        have HB := Aside0.mk Q_HB
        have hc0_ : w'.cell? ⟨gb345, 0, none⟩ = some (.int .i64 a0_0) := (blk_cell BK345.out 0).trans rfl
        have hc1_ : w'.cell? ⟨gb345, 1, none⟩ = some (.int .i64 a0_1) := (blk_cell BK345.out 1).trans rfl
        have hc2_ : w'.cell? ⟨gb345, 2, none⟩ = some (.int .i64 a0_2) := (blk_cell BK345.out 2).trans rfl
        have hc3_ : w'.cell? ⟨gb345, 3, none⟩ = some (.int .i64 a0_3) := (blk_cell BK345.out 3).trans rfl
        have hc4_ : w'.cell? ⟨gb345, 4, none⟩ = some (.int .i64 a0_4) := (blk_cell BK345.out 4).trans rfl
        refine value_ (w1 := w') (v := .int .i64 a0_2) (by rfl) rfl ?_ ?_
        · go_simp
          (try simp only [i64_w])
          try rfl
        refine hK.out _ _ ⟨v347, adz_v347, m3_, (by rw [ha.out]; exact putSel_upk 1 hb_ rfl rfl rfl), Q_BK345, Q_HB, Q_HO348, Q_HA_HO348, fun h0_ => absurd ((hoff 3 (by kernel_rfl)).symm.trans h0_) (by decide)⟩
      refine steps_cons ?_ ?_
      · rintro b a w' ⟨v347, adz_v347, m3_, ha, Q_BK345, Q_HB, Q_HO348, Q_HA_HO348, Q_X3_⟩ hb_ hon hoff
        refine ⟨_, rfl, fun K hK => ?_⟩
        have e4 : a.tmps[4]? = some (v347) := by rw [ha]; exact putSel_on (e := (0, 4, v347)) 0 rfl rfl (hon 0 (by kernel_rfl)) rfl
        have e6 : a.tmps[6]? = some (.int .i64 a0_2) := by rw [ha]; exact putSel_on (e := (2, 6, .int .i64 a0_2)) 1 rfl rfl (hon 2 (by kernel_rfl)) rfl
        replace ha := Aside0.mk ha
        have BK345 := Aside0.mk Q_BK345
        have HB := Aside0.mk Q_HB
        have HO348 := Aside0.mk (Q_HO348 (hon 0 (by kernel_rfl)))
        have HA_HO348 := Aside0.mk (Q_HA_HO348 (hon 0 (by kernel_rfl)))
        obtain ⟨c_, hv_⟩ := HA_HO348.out
        rw [hv_] at e4
        refine value_ (w1 := w') (v := .pointer (some (adz_v347.add (a0_2).toNat))) (by rfl) rfl ?_ ?_
        · go_simp
          (try simp only [i64_w])
          try rfl
        refine hK.out _ _ ⟨v347, adz_v347, (.pointer (some (adz_v347.add (a0_2).toNat))), (by rw [ha.out]; exact putSel_upk 2 hb_ rfl rfl rfl), Q_BK345, Q_HB, Q_HO348, Q_HA_HO348, fun _ => rfl⟩
      refine steps_cons ?_ ?_
      · rintro b a w' ⟨v347, adz_v347, m3_, ha, Q_BK345, Q_HB, Q_HO348, Q_HA_HO348, Q_X3_⟩ hb_ hon hoff
        refine ⟨_, rfl, fun K hK => ?_⟩
        have e7 : a.tmps[7]? = some (m3_) := by rw [ha]; exact putSel_on (e := (3, 7, m3_)) 2 rfl rfl (hon 3 (by kernel_rfl)) rfl
        rw [Q_X3_ (hon 3 (by kernel_rfl))] at e7
        replace ha := Aside0.mk ha
        have BK345 := Aside0.mk Q_BK345
        have HB := Aside0.mk Q_HB
        have HO348 := Aside0.mk (Q_HO348 (hon 0 (by kernel_rfl)))
        have HA_HO348 := Aside0.mk (Q_HA_HO348 (hon 0 (by kernel_rfl)))
        obtain ⟨c_, hv_⟩ := HA_HO348.out
        have hF_ := HO348.out
        rw [hv_] at hF_
        obtain ⟨ad_, ea_, hx_⟩ := Kd.at_string (Kd.R_reads' hF_).2.2 a0_2 (of_eq_true pi349) (of_eq_true qi349)
        cases ea_
        refine value_ (w1 := w') (v := .string (rdOf ByteArray.empty y346 a0_2)) (by rfl) rfl ?_ ?_
        · go_simp
          (try simp only [i64_w])
          try rfl
        refine hK.out _ _ ⟨v347, adz_v347, m3_, (by rw [ha.out]; exact putSel_upk 3 hb_ rfl rfl rfl), Q_BK345, Q_HB, Q_HO348, Q_HA_HO348, Q_X3_⟩
      refine steps_cons ?_ ?_
      · rintro b a w' ⟨v347, adz_v347, m3_, ha, Q_BK345, Q_HB, Q_HO348, Q_HA_HO348, Q_X3_⟩ hb_ hon hoff
        refine ⟨_, rfl, fun K hK => ?_⟩
        have e8 : a.tmps[8]? = some (.string (rdOf ByteArray.empty y346 a0_2)) := by rw [ha]; exact putSel_on (e := (4, 8, .string (rdOf ByteArray.empty y346 a0_2))) 3 rfl rfl (hon 4 (by kernel_rfl)) rfl
        replace ha := Aside0.mk ha
        have BK345 := Aside0.mk Q_BK345
        have HB := Aside0.mk Q_HB
        have HO348 := Aside0.mk (Q_HO348 (hon 0 (by kernel_rfl)))
        have HA_HO348 := Aside0.mk (Q_HA_HO348 (hon 0 (by kernel_rfl)))
        refine value_ (w1 := w') (v := .string (cat (rdOf ByteArray.empty y346 a0_2) (⟨#[32]⟩ : ByteArray))) (by rfl) rfl ?_ ?_
        · go_simp
          (try simp only [i64_w])
          try rfl
        refine hK.out _ _ ⟨v347, adz_v347, m3_, (by rw [ha.out]; exact putSel_upk 4 hb_ rfl rfl rfl), Q_BK345, Q_HB, Q_HO348, Q_HA_HO348, Q_X3_⟩
      refine steps_cons ?_ ?_
      · rintro b a w' ⟨v347, adz_v347, m3_, ha, Q_BK345, Q_HB, Q_HO348, Q_HA_HO348, Q_X3_⟩ hb_ hon hoff
        refine ⟨_, rfl, fun K hK => ?_⟩
        have e10 : a.tmps[10]? = some (.pointer (some ⟨gb345, 1, none⟩)) := by rw [ha]; exact (putSel_off rfl).trans rfl
        replace ha := Aside0.mk ha
        have BK345 := Aside0.mk Q_BK345
        have HB := Aside0.mk Q_HB
        have hc0_ : w'.cell? ⟨gb345, 0, none⟩ = some (.int .i64 a0_0) := (blk_cell BK345.out 0).trans rfl
        have hc1_ : w'.cell? ⟨gb345, 1, none⟩ = some (.int .i64 a0_1) := (blk_cell BK345.out 1).trans rfl
        have hc2_ : w'.cell? ⟨gb345, 2, none⟩ = some (.int .i64 a0_2) := (blk_cell BK345.out 2).trans rfl
        have hc3_ : w'.cell? ⟨gb345, 3, none⟩ = some (.int .i64 a0_3) := (blk_cell BK345.out 3).trans rfl
        have hc4_ : w'.cell? ⟨gb345, 4, none⟩ = some (.int .i64 a0_4) := (blk_cell BK345.out 4).trans rfl
        refine value_ (w1 := w') (v := .int .i64 a0_1) (by rfl) rfl ?_ ?_
        · go_simp
          (try simp only [i64_w])
          try rfl
        refine hK.out _ _ ⟨v347, adz_v347, m3_, (by rw [ha.out]; exact putSel_upk 5 hb_ rfl rfl rfl), Q_BK345, Q_HB, Q_HO348, Q_HA_HO348, Q_X3_⟩
      refine steps_cons ?_ ?_
      · rintro b a w' ⟨v347, adz_v347, m3_, ha, Q_BK345, Q_HB, Q_HO348, Q_HA_HO348, Q_X3_⟩ hb_ hon hoff
        refine ⟨_, rfl, fun K hK => ?_⟩
        have e11 : a.tmps[11]? = some (.int .i64 a0_1) := by rw [ha]; exact putSel_on (e := (7, 11, .int .i64 a0_1)) 5 rfl rfl (hon 7 (by kernel_rfl)) rfl
        replace ha := Aside0.mk ha
        have BK345 := Aside0.mk Q_BK345
        have HB := Aside0.mk Q_HB
        refine goes_ Tryd.func52 (by kernel_rfl) rfl #[.int .i64 a0_1] (by rfl) rfl rfl zz72 ?_
        with_reducible refine (spec_l1Num.calls a0_1 t350 _ A5.out).mono ?_
        rintro e w27 ⟨rfl, hb⟩
        refine ⟨_, rfl, ?_⟩
        have n0_ := Aside0.mk (blk_below (qb BK345.out) hb)
        have n1_ := Aside0.mk (below_step zz27 hb)
        have z_HO348 := fun (h0_ : b 0 = true) => (show Kd.R Kd.string 9 w27 w.heap.size (fun _ => True) v347 y346 from zz92)
        clear BK345
        clear HB
        have BK345 := n0_
        have HB := n1_
        clear n0_ n1_
        (try clear hb)
        (try clear hb2)
        (try clear hk)
        (try clear hi)
        refine hK.out _ _ ⟨v347, adz_v347, m3_, (by rw [ha.out]; exact putSel_upk 6 hb_ rfl rfl rfl), (qb BK345.out), zz27, z_HO348, Q_HA_HO348, Q_X3_⟩
      refine steps_cons ?_ ?_
      · rintro b a w' ⟨v347, adz_v347, m3_, ha, Q_BK345, Q_HB, Q_HO348, Q_HA_HO348, Q_X3_⟩ hb_ hon hoff
        refine ⟨_, rfl, fun K hK => ?_⟩
        have e9 : a.tmps[9]? = some (.string (cat (rdOf ByteArray.empty y346 a0_2) (⟨#[32]⟩ : ByteArray))) := by rw [ha]; exact putSel_on (e := (5, 9, .string (cat (rdOf ByteArray.empty y346 a0_2) (⟨#[32]⟩ : ByteArray)))) 4 rfl rfl (hon 5 (by kernel_rfl)) rfl
        have e12 : a.tmps[12]? = some (.string t350) := by rw [ha]; exact putSel_on (e := (8, 12, .string t350)) 6 rfl rfl (hon 8 (by kernel_rfl)) rfl
        replace ha := Aside0.mk ha
        have BK345 := Aside0.mk Q_BK345
        have HB := Aside0.mk Q_HB
        have HO348 := Aside0.mk (Q_HO348 (hon 0 (by kernel_rfl)))
        have HA_HO348 := Aside0.mk (Q_HA_HO348 (hon 0 (by kernel_rfl)))
        refine value_ (w1 := w') (v := .string (cat (cat (rdOf ByteArray.empty y346 a0_2) (⟨#[32]⟩ : ByteArray)) t350)) (by rfl) rfl ?_ ?_
        · go_simp
          (try simp only [i64_w])
          try rfl
        refine hK.out _ _ ⟨v347, adz_v347, m3_, (by rw [ha.out]; exact putSel_upk 7 hb_ rfl rfl rfl), Q_BK345, Q_HB, Q_HO348, Q_HA_HO348, Q_X3_⟩
      refine steps_cons ?_ ?_
      · rintro b a w' ⟨v347, adz_v347, m3_, ha, Q_BK345, Q_HB, Q_HO348, Q_HA_HO348, Q_X3_⟩ hb_ hon hoff
        refine ⟨_, rfl, fun K hK => ?_⟩
        have e13 : a.tmps[13]? = some (.string (cat (cat (rdOf ByteArray.empty y346 a0_2) (⟨#[32]⟩ : ByteArray)) t350)) := by rw [ha]; exact putSel_on (e := (9, 13, .string (cat (cat (rdOf ByteArray.empty y346 a0_2) (⟨#[32]⟩ : ByteArray)) t350))) 7 rfl rfl (hon 9 (by kernel_rfl)) rfl
        replace ha := Aside0.mk ha
        have BK345 := Aside0.mk Q_BK345
        have HB := Aside0.mk Q_HB
        have HO348 := Aside0.mk (Q_HO348 (hon 0 (by kernel_rfl)))
        have HA_HO348 := Aside0.mk (Q_HA_HO348 (hon 0 (by kernel_rfl)))
        refine value_ (w1 := w') (v := .string (cat (cat (cat (rdOf ByteArray.empty y346 a0_2) (⟨#[32]⟩ : ByteArray)) t350) (⟨#[47]⟩ : ByteArray))) (by rfl) rfl ?_ ?_
        · go_simp
          (try simp only [i64_w])
          try rfl
        refine hK.out _ _ ⟨v347, adz_v347, m3_, (by rw [ha.out]; exact putSel_upk 8 hb_ rfl rfl rfl), Q_BK345, Q_HB, Q_HO348, Q_HA_HO348, Q_X3_⟩
      refine steps_cons ?_ ?_
      · rintro b a w' ⟨v347, adz_v347, m3_, ha, Q_BK345, Q_HB, Q_HO348, Q_HA_HO348, Q_X3_⟩ hb_ hon hoff
        refine ⟨_, rfl, fun K hK => ?_⟩
        have e15 : a.tmps[15]? = some (.pointer (some ⟨gb345, 0, none⟩)) := by rw [ha]; exact (putSel_off rfl).trans rfl
        replace ha := Aside0.mk ha
        have BK345 := Aside0.mk Q_BK345
        have HB := Aside0.mk Q_HB
        have hc0_ : w'.cell? ⟨gb345, 0, none⟩ = some (.int .i64 a0_0) := (blk_cell BK345.out 0).trans rfl
        have hc1_ : w'.cell? ⟨gb345, 1, none⟩ = some (.int .i64 a0_1) := (blk_cell BK345.out 1).trans rfl
        have hc2_ : w'.cell? ⟨gb345, 2, none⟩ = some (.int .i64 a0_2) := (blk_cell BK345.out 2).trans rfl
        have hc3_ : w'.cell? ⟨gb345, 3, none⟩ = some (.int .i64 a0_3) := (blk_cell BK345.out 3).trans rfl
        have hc4_ : w'.cell? ⟨gb345, 4, none⟩ = some (.int .i64 a0_4) := (blk_cell BK345.out 4).trans rfl
        refine value_ (w1 := w') (v := .int .i64 a0_0) (by rfl) rfl ?_ ?_
        · go_simp
          (try simp only [i64_w])
          try rfl
        refine hK.out _ _ ⟨v347, adz_v347, m3_, (by rw [ha.out]; exact putSel_upk 9 hb_ rfl rfl rfl), Q_BK345, Q_HB, Q_HO348, Q_HA_HO348, Q_X3_⟩
      refine steps_cons ?_ ?_
      · rintro b a w' ⟨v347, adz_v347, m3_, ha, Q_BK345, Q_HB, Q_HO348, Q_HA_HO348, Q_X3_⟩ hb_ hon hoff
        refine ⟨_, rfl, fun K hK => ?_⟩
        have e16 : a.tmps[16]? = some (.int .i64 a0_0) := by rw [ha]; exact putSel_on (e := (12, 16, .int .i64 a0_0)) 9 rfl rfl (hon 12 (by kernel_rfl)) rfl
        replace ha := Aside0.mk ha
        have BK345 := Aside0.mk Q_BK345
        have HB := Aside0.mk Q_HB
        refine goes_ Tryd.func52 (by kernel_rfl) rfl #[.int .i64 a0_0] (by rfl) rfl rfl zz73 ?_
        with_reducible refine (spec_l1Num.calls a0_0 t351 _ A8.out).mono ?_
        rintro e w29 ⟨rfl, hb⟩
        refine ⟨_, rfl, ?_⟩
        have n0_ := Aside0.mk (blk_below (qb BK345.out) hb)
        have n1_ := Aside0.mk (below_step zz27 hb)
        have z_HO348 := fun (h0_ : b 0 = true) => (show Kd.R Kd.string 9 w29 w.heap.size (fun _ => True) v347 y346 from zz92)
        clear BK345
        clear HB
        have BK345 := n0_
        have HB := n1_
        clear n0_ n1_
        (try clear hb)
        (try clear hb2)
        (try clear hk)
        (try clear hi)
        refine hK.out _ _ ⟨v347, adz_v347, m3_, (by rw [ha.out]; exact putSel_upk 10 hb_ rfl rfl rfl), (qb BK345.out), zz27, z_HO348, Q_HA_HO348, Q_X3_⟩
      refine steps_cons ?_ ?_
      · rintro b a w' ⟨v347, adz_v347, m3_, ha, Q_BK345, Q_HB, Q_HO348, Q_HA_HO348, Q_X3_⟩ hb_ hon hoff
        refine ⟨_, rfl, fun K hK => ?_⟩
        have e14 : a.tmps[14]? = some (.string (cat (cat (cat (rdOf ByteArray.empty y346 a0_2) (⟨#[32]⟩ : ByteArray)) t350) (⟨#[47]⟩ : ByteArray))) := by rw [ha]; exact putSel_on (e := (10, 14, .string (cat (cat (cat (rdOf ByteArray.empty y346 a0_2) (⟨#[32]⟩ : ByteArray)) t350) (⟨#[47]⟩ : ByteArray)))) 8 rfl rfl (hon 10 (by kernel_rfl)) rfl
        have e17 : a.tmps[17]? = some (.string t351) := by rw [ha]; exact putSel_on (e := (13, 17, .string t351)) 10 rfl rfl (hon 13 (by kernel_rfl)) rfl
        replace ha := Aside0.mk ha
        have BK345 := Aside0.mk Q_BK345
        have HB := Aside0.mk Q_HB
        have HO348 := Aside0.mk (Q_HO348 (hon 0 (by kernel_rfl)))
        have HA_HO348 := Aside0.mk (Q_HA_HO348 (hon 0 (by kernel_rfl)))
        refine value_ (w1 := w') (v := .string (cat (cat (cat (cat (rdOf ByteArray.empty y346 a0_2) (⟨#[32]⟩ : ByteArray)) t350) (⟨#[47]⟩ : ByteArray)) t351)) (by rfl) rfl ?_ ?_
        · go_simp
          (try simp only [i64_w])
          try rfl
        refine hK.out _ _ ⟨v347, adz_v347, m3_, (by rw [ha.out]; exact putSel_upk 11 hb_ rfl rfl rfl), Q_BK345, Q_HB, Q_HO348, Q_HA_HO348, Q_X3_⟩
      refine steps_cons ?_ ?_
      · rintro b a w' ⟨v347, adz_v347, m3_, ha, Q_BK345, Q_HB, Q_HO348, Q_HA_HO348, Q_X3_⟩ hb_ hon hoff
        refine ⟨_, rfl, fun K hK => ?_⟩
        have e18 : a.tmps[18]? = some (.string (cat (cat (cat (cat (rdOf ByteArray.empty y346 a0_2) (⟨#[32]⟩ : ByteArray)) t350) (⟨#[47]⟩ : ByteArray)) t351)) := by rw [ha]; exact putSel_on (e := (14, 18, .string (cat (cat (cat (cat (rdOf ByteArray.empty y346 a0_2) (⟨#[32]⟩ : ByteArray)) t350) (⟨#[47]⟩ : ByteArray)) t351))) 11 rfl rfl (hon 14 (by kernel_rfl)) rfl
        replace ha := Aside0.mk ha
        have BK345 := Aside0.mk Q_BK345
        have HB := Aside0.mk Q_HB
        have HO348 := Aside0.mk (Q_HO348 (hon 0 (by kernel_rfl)))
        have HA_HO348 := Aside0.mk (Q_HA_HO348 (hon 0 (by kernel_rfl)))
        refine value_ (w1 := w') (v := .string (cat (cat (cat (cat (rdOf ByteArray.empty y346 a0_2) (⟨#[32]⟩ : ByteArray)) t350) (⟨#[47]⟩ : ByteArray)) t351)) (by rfl) rfl ?_ ?_
        · go_simp
          (try simp only [i64_w])
          try rfl
        refine hK.out _ _ ⟨v347, adz_v347, m3_, (by rw [ha.out]; exact putSel_upk 12 hb_ rfl rfl rfl), Q_BK345, Q_HB, Q_HO348, Q_HA_HO348, Q_X3_⟩
      exact steps_nil
    rintro b a w32 hall ⟨v347, adz_v347, m3_, ha, Q_BK345, Q_HB, Q_HO348, Q_HA_HO348, Q_X3_⟩
    clear BK345 HB
    have hb0_ := hall 0 (by kernel_rfl)
    have hb2_ := hall 2 (by kernel_rfl)
    have hb3_ := hall 3 (by kernel_rfl)
    have hb4_ := hall 4 (by kernel_rfl)
    have hb5_ := hall 5 (by kernel_rfl)
    have hb7_ := hall 7 (by kernel_rfl)
    have hb8_ := hall 8 (by kernel_rfl)
    have hb9_ := hall 9 (by kernel_rfl)
    have hb10_ := hall 10 (by kernel_rfl)
    have hb12_ := hall 12 (by kernel_rfl)
    have hb13_ := hall 13 (by kernel_rfl)
    have hb14_ := hall 14 (by kernel_rfl)
    have hb15_ := hall 15 (by kernel_rfl)
    subst ha
    obtain rfl := Q_X3_ hb3_
    simp only [putSel, hb0_, hb2_, hb3_, hb4_, hb5_, hb7_, hb8_, hb9_, hb10_, hb12_, hb13_, hb14_, hb15_, if_true, Act.put, List.setIfInBounds_toArray, List.set_cons_zero, List.set_cons_succ]
    have BK345 := Aside0.mk Q_BK345
    clear Q_BK345
    have HB := Aside0.mk Q_HB
    clear Q_HB
    have HO348 := Aside0.mk (Q_HO348 hb0_)
    clear Q_HO348
    have HA_HO348 := Aside0.mk (Q_HA_HO348 hb0_)
    clear Q_HA_HO348
    clear hall hb0_ hb2_ hb3_ hb4_ hb5_ hb7_ hb8_ hb9_ hb10_ hb12_ hb13_ hb14_ hb15_
    obtain ⟨co33, eo33⟩ := HA_HO348.out
    clear HA_HO348
    subst eo33
    obtain ⟨hcz34_0, hcz34_1, hcz34_2, hcz34_3, hcz34_4, hfz34_0, hfz34_1, hfz34_2, hfz34_3, hfz34_4⟩ := qc5 BK345.out
    try go_wp2
    go_ret
    exact ⟨zz9, zz27⟩
  rw [if_pos c10] at H
  have c10b0 := decide_eq_true c10
  clear c10
  by_cases c11 : (cat (cat (cat (cat (rdOf ByteArray.empty y346 a0_2) (⟨#[32]⟩ : ByteArray)) t350) (⟨#[47]⟩ : ByteArray)) t351).size + 4 ≤ 9223372036854775807
  rotate_left
  · rw [if_neg c11] at H
    exact absurd H (by simp)
  rw [if_pos c11] at H
  have c11b0 := eq_true c11
  have c11b1 := decide_eq_true c11
  try have c11b2 := eq_false (Nat.not_lt.2 c11)
  clear c11
  replace H := Option.bind_eq_some_iff.mp H
  obtain ⟨t352, A120, H⟩ := H
  (try dsimp only at H)
  have A12 := Aside0.mk A120
  clear A120
  by_cases c13 : (cat (cat (cat (cat (cat (rdOf ByteArray.empty y346 a0_2) (⟨#[32]⟩ : ByteArray)) t350) (⟨#[47]⟩ : ByteArray)) t351) (⟨#[32, 111, 110, 32]⟩ : ByteArray)).size + t352.size ≤ 9223372036854775807
  rotate_left
  · rw [if_neg c13] at H
    exact absurd H (by simp)
  rw [if_pos c13] at H
  have c13b0 := eq_true c13
  have c13b1 := decide_eq_true c13
  try have c13b2 := eq_false (Nat.not_lt.2 c13)
  clear c13
  obtain rfl := Option.some.inj H
  go_enter Tryd.func43, Tryd.ntmps43
  try go_wp2_with (first | ((with_reducible refine gate_dst (N := 1) rfl ?_); refine qbox (N := 1) (cs := #[.int .i64 a0_0, .int .i64 a0_1, .int .i64 a0_2, .int .i64 a0_3, .int .i64 a0_4]) (t := 62) ?_; intro gb345 hg w14 hbox hb; refine qs4 (below_step zz20 hb) (hbox) ((zz87 : w.heap.size ≤ gb345)) ((zz87 : w.heap.size ≤ gb345)) ?_; clear HB; intro HB BK345 GW345 GE345; clear hb hbox hg))
  have pi349 : (0 ≤ (a0_2 : Int)) = True := eq_true (of_decide_eq_true zz5)
  have qi349 : (a0_2 < (y346.length : Int)) = True := eq_true (of_decide_eq_true zz5)
  refine qs2 (blk_drew BK345.out) (below_drew1 HB.out) ?_; clear BK345 HB; intro BK345 HB
  refine start_ (n := 16) (S := fun w' => True) (ds := []) #[false, false, false, false, false, false, false, false, false, false, false, false, false, false, false, false] (by kernel_rfl) rfl rfl trivial (fun hHeld => ?_); refine with_tabW spec_l25Text.tab1 spec_l25Text.bits1 (fun HT_ HW_ => ?_)
  generalize w14.drew = w15 at BK345 HB hHeld ⊢
  refine qp 1 5 ?_; refine qp 6 10 ?_; refine qp 11 15 ?_
  refine inv_at [0, 2, 3, 4, 5, 7, 8, 9, 10, 12, 13, 14, 15] (fun a0_ b a w' => ∃ (v347 : Value) (adz_v347 : Addr) (m3_ : Value), a = putSel a0_ b [(0, 4, v347), (2, 6, .int .i64 a0_2), (3, 7, m3_), (4, 8, .string (rdOf ByteArray.empty y346 a0_2)), (5, 9, .string (cat (rdOf ByteArray.empty y346 a0_2) (⟨#[32]⟩ : ByteArray))), (7, 11, .int .i64 a0_1), (8, 12, .string t350), (9, 13, .string (cat (cat (rdOf ByteArray.empty y346 a0_2) (⟨#[32]⟩ : ByteArray)) t350)), (10, 14, .string (cat (cat (cat (rdOf ByteArray.empty y346 a0_2) (⟨#[32]⟩ : ByteArray)) t350) (⟨#[47]⟩ : ByteArray))), (12, 16, .int .i64 a0_0), (13, 17, .string t351), (14, 18, .string (cat (cat (cat (cat (rdOf ByteArray.empty y346 a0_2) (⟨#[32]⟩ : ByteArray)) t350) (⟨#[47]⟩ : ByteArray)) t351)), (15, 3, .string (cat (cat (cat (cat (rdOf ByteArray.empty y346 a0_2) (⟨#[32]⟩ : ByteArray)) t350) (⟨#[47]⟩ : ByteArray)) t351))] ∧ (w'.heap[gb345]? = some (.cells #[.int .i64 a0_0, .int .i64 a0_1, .int .i64 a0_2, .int .i64 a0_3, .int .i64 a0_4] 62 (0, 0))) ∧ (Below w.heap.size w w') ∧ (b 0 = true → Kd.R Kd.string 9 w' w.heap.size (fun _ => True) v347 y346) ∧ (b 0 = true → ∃ c_, (v347 : Value) = .slice (some adz_v347) y346.length c_) ∧ (b 3 = true → (m3_ : Value) = .pointer (some (adz_v347.add (a0_2).toNat)))) HT_.out HW_.out (by kernel_rfl) (by kernel_rfl) ?_ ?_ ?_
  · exact ⟨.bool false, ⟨0, 0, none⟩, .bool false, by simp only [putSel, Bool.false_eq_true, if_false], BK345.out, HB.out, fun h_ => absurd h_ (by decide), fun h_ => absurd h_ (by decide), fun h_ => absurd h_ (by decide)⟩
  · skip
    clear BK345 HB
    refine steps_cons ?_ ?_
    · rintro b a w' ⟨v347, adz_v347, m3_, ha, Q_BK345, Q_HB, Q_HO348, Q_HA_HO348, Q_X3_⟩ hb_ hon hoff
      refine ⟨_, rfl, fun K hK => ?_⟩
      replace ha := Aside0.mk ha
      have BK345 := Aside0.mk Q_BK345
      have HB := Aside0.mk Q_HB
      refine Kd.R_lit_step Kd.string _ 9 ?hg (N := 4) ?hd (xs := ([(⟨#[119, 97, 105, 116, 115]⟩ : ByteArray), (⟨#[119, 111, 118, 101, 110]⟩ : ByteArray), (⟨#[111, 102, 102]⟩ : ByteArray), (⟨#[119, 97, 115, 104, 101, 100]⟩ : ByteArray), (⟨#[115, 111, 108, 100]⟩ : ByteArray)] : List ByteArray)) (inner := [.string (⟨#[119, 97, 105, 116, 115]⟩ : ByteArray), .string (⟨#[119, 111, 118, 101, 110]⟩ : ByteArray), .string (⟨#[111, 102, 102]⟩ : ByteArray), .string (⟨#[119, 97, 115, 104, 101, 100]⟩ : ByteArray), .string (⟨#[115, 111, 108, 100]⟩ : ByteArray)]) (ok := fun _ => True) (okp := fun _ => True) ?hr ?hp (fun _ hk => hk) trivial (Below.refl _ _) (Nat.le_refl _) (by simp) ?_; (case hd => rfl); (case hg => rfl); (case hr => exact zz3); (case hp => exact zz83)
      intro v347 w16 ho17 hb hg_ hnew_
      clear hg_ hnew_
      (first | rw [← Ny346.out] at ho17 | (simp only [Int.reduceToNat] at ho17; rw [← Ny346.out] at ho17))
      refine qs3 (Kd.R_lower ho17 (below_size zz27)) (blk_below (qb BK345.out) hb) (below_step zz27 hb) ?_; clear BK345 HB; intro HO348 BK345 HB
      clear hb ho17
      obtain ⟨Ao18, co18, eo18⟩ := Kd.R_slice HO348.out
      subst eo18
      obtain ⟨ado18, fo18, _⟩ := Kd.at_string (Kd.R_reads' HO348.out).2.2 0 (by decide) (by rw [Ny346.out]; simp)
      cases fo18
      refine hK.out _ _ ⟨.slice (some ado18) y346.length co18, ado18, m3_, (by rw [ha.out]; exact putSel_upk 0 hb_ rfl rfl rfl), (qb BK345.out), zz27, fun _ => (qr HO348.out), fun _ => ⟨_, rfl⟩, fun h0_ => absurd ((hoff 3 (by kernel_rfl)).symm.trans h0_) (by decide)⟩
    refine steps_cons ?_ ?_
    · rintro b a w' ⟨v347, adz_v347, m3_, ha, Q_BK345, Q_HB, Q_HO348, Q_HA_HO348, Q_X3_⟩ hb_ hon hoff
      refine ⟨_, rfl, fun K hK => ?_⟩
      have e5 : a.tmps[5]? = some (.pointer (some ⟨gb345, 2, none⟩)) := by rw [ha]; exact (putSel_off rfl).trans rfl
      replace ha := Aside0.mk ha
      have BK345 := Aside0.mk Q_BK345
      have HB := Aside0.mk Q_HB
      have hc0_ : w'.cell? ⟨gb345, 0, none⟩ = some (.int .i64 a0_0) := (blk_cell BK345.out 0).trans rfl
      have hc1_ : w'.cell? ⟨gb345, 1, none⟩ = some (.int .i64 a0_1) := (blk_cell BK345.out 1).trans rfl
      have hc2_ : w'.cell? ⟨gb345, 2, none⟩ = some (.int .i64 a0_2) := (blk_cell BK345.out 2).trans rfl
      have hc3_ : w'.cell? ⟨gb345, 3, none⟩ = some (.int .i64 a0_3) := (blk_cell BK345.out 3).trans rfl
      have hc4_ : w'.cell? ⟨gb345, 4, none⟩ = some (.int .i64 a0_4) := (blk_cell BK345.out 4).trans rfl
      refine value_ (w1 := w') (v := .int .i64 a0_2) (by rfl) rfl ?_ ?_
      · go_simp
        (try simp only [i64_w])
        try rfl
      refine hK.out _ _ ⟨v347, adz_v347, m3_, (by rw [ha.out]; exact putSel_upk 1 hb_ rfl rfl rfl), Q_BK345, Q_HB, Q_HO348, Q_HA_HO348, fun h0_ => absurd ((hoff 3 (by kernel_rfl)).symm.trans h0_) (by decide)⟩
    refine steps_cons ?_ ?_
    · rintro b a w' ⟨v347, adz_v347, m3_, ha, Q_BK345, Q_HB, Q_HO348, Q_HA_HO348, Q_X3_⟩ hb_ hon hoff
      refine ⟨_, rfl, fun K hK => ?_⟩
      have e4 : a.tmps[4]? = some (v347) := by rw [ha]; exact putSel_on (e := (0, 4, v347)) 0 rfl rfl (hon 0 (by kernel_rfl)) rfl
      have e6 : a.tmps[6]? = some (.int .i64 a0_2) := by rw [ha]; exact putSel_on (e := (2, 6, .int .i64 a0_2)) 1 rfl rfl (hon 2 (by kernel_rfl)) rfl
      replace ha := Aside0.mk ha
      have BK345 := Aside0.mk Q_BK345
      have HB := Aside0.mk Q_HB
      have HO348 := Aside0.mk (Q_HO348 (hon 0 (by kernel_rfl)))
      have HA_HO348 := Aside0.mk (Q_HA_HO348 (hon 0 (by kernel_rfl)))
      obtain ⟨c_, hv_⟩ := HA_HO348.out
      rw [hv_] at e4
      refine value_ (w1 := w') (v := .pointer (some (adz_v347.add (a0_2).toNat))) (by rfl) rfl ?_ ?_
      · go_simp
        (try simp only [i64_w])
        try rfl
      refine hK.out _ _ ⟨v347, adz_v347, (.pointer (some (adz_v347.add (a0_2).toNat))), (by rw [ha.out]; exact putSel_upk 2 hb_ rfl rfl rfl), Q_BK345, Q_HB, Q_HO348, Q_HA_HO348, fun _ => rfl⟩
    refine steps_cons ?_ ?_
    · rintro b a w' ⟨v347, adz_v347, m3_, ha, Q_BK345, Q_HB, Q_HO348, Q_HA_HO348, Q_X3_⟩ hb_ hon hoff
      refine ⟨_, rfl, fun K hK => ?_⟩
      have e7 : a.tmps[7]? = some (m3_) := by rw [ha]; exact putSel_on (e := (3, 7, m3_)) 2 rfl rfl (hon 3 (by kernel_rfl)) rfl
      rw [Q_X3_ (hon 3 (by kernel_rfl))] at e7
      replace ha := Aside0.mk ha
      have BK345 := Aside0.mk Q_BK345
      have HB := Aside0.mk Q_HB
      have HO348 := Aside0.mk (Q_HO348 (hon 0 (by kernel_rfl)))
      have HA_HO348 := Aside0.mk (Q_HA_HO348 (hon 0 (by kernel_rfl)))
      obtain ⟨c_, hv_⟩ := HA_HO348.out
      have hF_ := HO348.out
      rw [hv_] at hF_
      obtain ⟨ad_, ea_, hx_⟩ := Kd.at_string (Kd.R_reads' hF_).2.2 a0_2 (of_eq_true pi349) (of_eq_true qi349)
      cases ea_
      refine value_ (w1 := w') (v := .string (rdOf ByteArray.empty y346 a0_2)) (by rfl) rfl ?_ ?_
      · go_simp
        (try simp only [i64_w])
        try rfl
      refine hK.out _ _ ⟨v347, adz_v347, m3_, (by rw [ha.out]; exact putSel_upk 3 hb_ rfl rfl rfl), Q_BK345, Q_HB, Q_HO348, Q_HA_HO348, Q_X3_⟩
    refine steps_cons ?_ ?_
    · rintro b a w' ⟨v347, adz_v347, m3_, ha, Q_BK345, Q_HB, Q_HO348, Q_HA_HO348, Q_X3_⟩ hb_ hon hoff
      refine ⟨_, rfl, fun K hK => ?_⟩
      have e8 : a.tmps[8]? = some (.string (rdOf ByteArray.empty y346 a0_2)) := by rw [ha]; exact putSel_on (e := (4, 8, .string (rdOf ByteArray.empty y346 a0_2))) 3 rfl rfl (hon 4 (by kernel_rfl)) rfl
      replace ha := Aside0.mk ha
      have BK345 := Aside0.mk Q_BK345
      have HB := Aside0.mk Q_HB
      have HO348 := Aside0.mk (Q_HO348 (hon 0 (by kernel_rfl)))
      have HA_HO348 := Aside0.mk (Q_HA_HO348 (hon 0 (by kernel_rfl)))
      refine value_ (w1 := w') (v := .string (cat (rdOf ByteArray.empty y346 a0_2) (⟨#[32]⟩ : ByteArray))) (by rfl) rfl ?_ ?_
      · go_simp
        (try simp only [i64_w])
        try rfl
      refine hK.out _ _ ⟨v347, adz_v347, m3_, (by rw [ha.out]; exact putSel_upk 4 hb_ rfl rfl rfl), Q_BK345, Q_HB, Q_HO348, Q_HA_HO348, Q_X3_⟩
    refine steps_cons ?_ ?_
    · rintro b a w' ⟨v347, adz_v347, m3_, ha, Q_BK345, Q_HB, Q_HO348, Q_HA_HO348, Q_X3_⟩ hb_ hon hoff
      refine ⟨_, rfl, fun K hK => ?_⟩
      have e10 : a.tmps[10]? = some (.pointer (some ⟨gb345, 1, none⟩)) := by rw [ha]; exact (putSel_off rfl).trans rfl
      replace ha := Aside0.mk ha
      have BK345 := Aside0.mk Q_BK345
      have HB := Aside0.mk Q_HB
      have hc0_ : w'.cell? ⟨gb345, 0, none⟩ = some (.int .i64 a0_0) := (blk_cell BK345.out 0).trans rfl
      have hc1_ : w'.cell? ⟨gb345, 1, none⟩ = some (.int .i64 a0_1) := (blk_cell BK345.out 1).trans rfl
      have hc2_ : w'.cell? ⟨gb345, 2, none⟩ = some (.int .i64 a0_2) := (blk_cell BK345.out 2).trans rfl
      have hc3_ : w'.cell? ⟨gb345, 3, none⟩ = some (.int .i64 a0_3) := (blk_cell BK345.out 3).trans rfl
      have hc4_ : w'.cell? ⟨gb345, 4, none⟩ = some (.int .i64 a0_4) := (blk_cell BK345.out 4).trans rfl
      refine value_ (w1 := w') (v := .int .i64 a0_1) (by rfl) rfl ?_ ?_
      · go_simp
        (try simp only [i64_w])
        try rfl
      refine hK.out _ _ ⟨v347, adz_v347, m3_, (by rw [ha.out]; exact putSel_upk 5 hb_ rfl rfl rfl), Q_BK345, Q_HB, Q_HO348, Q_HA_HO348, Q_X3_⟩
    refine steps_cons ?_ ?_
    · rintro b a w' ⟨v347, adz_v347, m3_, ha, Q_BK345, Q_HB, Q_HO348, Q_HA_HO348, Q_X3_⟩ hb_ hon hoff
      refine ⟨_, rfl, fun K hK => ?_⟩
      have e11 : a.tmps[11]? = some (.int .i64 a0_1) := by rw [ha]; exact putSel_on (e := (7, 11, .int .i64 a0_1)) 5 rfl rfl (hon 7 (by kernel_rfl)) rfl
      replace ha := Aside0.mk ha
      have BK345 := Aside0.mk Q_BK345
      have HB := Aside0.mk Q_HB
      refine goes_ Tryd.func52 (by kernel_rfl) rfl #[.int .i64 a0_1] (by rfl) rfl rfl zz72 ?_
      with_reducible refine (spec_l1Num.calls a0_1 t350 _ A5.out).mono ?_
      rintro e w16 ⟨rfl, hb⟩
      refine ⟨_, rfl, ?_⟩
      have n0_ := Aside0.mk (blk_below (qb BK345.out) hb)
      have n1_ := Aside0.mk (below_step zz27 hb)
      have z_HO348 := fun (h0_ : b 0 = true) => (show Kd.R Kd.string 9 w16 w.heap.size (fun _ => True) v347 y346 from zz92)
      clear BK345
      clear HB
      have BK345 := n0_
      have HB := n1_
      clear n0_ n1_
      (try clear hb)
      (try clear hb2)
      (try clear hk)
      (try clear hi)
      refine hK.out _ _ ⟨v347, adz_v347, m3_, (by rw [ha.out]; exact putSel_upk 6 hb_ rfl rfl rfl), (qb BK345.out), zz27, z_HO348, Q_HA_HO348, Q_X3_⟩
    refine steps_cons ?_ ?_
    · rintro b a w' ⟨v347, adz_v347, m3_, ha, Q_BK345, Q_HB, Q_HO348, Q_HA_HO348, Q_X3_⟩ hb_ hon hoff
      refine ⟨_, rfl, fun K hK => ?_⟩
      have e9 : a.tmps[9]? = some (.string (cat (rdOf ByteArray.empty y346 a0_2) (⟨#[32]⟩ : ByteArray))) := by rw [ha]; exact putSel_on (e := (5, 9, .string (cat (rdOf ByteArray.empty y346 a0_2) (⟨#[32]⟩ : ByteArray)))) 4 rfl rfl (hon 5 (by kernel_rfl)) rfl
      have e12 : a.tmps[12]? = some (.string t350) := by rw [ha]; exact putSel_on (e := (8, 12, .string t350)) 6 rfl rfl (hon 8 (by kernel_rfl)) rfl
      replace ha := Aside0.mk ha
      have BK345 := Aside0.mk Q_BK345
      have HB := Aside0.mk Q_HB
      have HO348 := Aside0.mk (Q_HO348 (hon 0 (by kernel_rfl)))
      have HA_HO348 := Aside0.mk (Q_HA_HO348 (hon 0 (by kernel_rfl)))
      refine value_ (w1 := w') (v := .string (cat (cat (rdOf ByteArray.empty y346 a0_2) (⟨#[32]⟩ : ByteArray)) t350)) (by rfl) rfl ?_ ?_
      · go_simp
        (try simp only [i64_w])
        try rfl
      refine hK.out _ _ ⟨v347, adz_v347, m3_, (by rw [ha.out]; exact putSel_upk 7 hb_ rfl rfl rfl), Q_BK345, Q_HB, Q_HO348, Q_HA_HO348, Q_X3_⟩
    refine steps_cons ?_ ?_
    · rintro b a w' ⟨v347, adz_v347, m3_, ha, Q_BK345, Q_HB, Q_HO348, Q_HA_HO348, Q_X3_⟩ hb_ hon hoff
      refine ⟨_, rfl, fun K hK => ?_⟩
      have e13 : a.tmps[13]? = some (.string (cat (cat (rdOf ByteArray.empty y346 a0_2) (⟨#[32]⟩ : ByteArray)) t350)) := by rw [ha]; exact putSel_on (e := (9, 13, .string (cat (cat (rdOf ByteArray.empty y346 a0_2) (⟨#[32]⟩ : ByteArray)) t350))) 7 rfl rfl (hon 9 (by kernel_rfl)) rfl
      replace ha := Aside0.mk ha
      have BK345 := Aside0.mk Q_BK345
      have HB := Aside0.mk Q_HB
      have HO348 := Aside0.mk (Q_HO348 (hon 0 (by kernel_rfl)))
      have HA_HO348 := Aside0.mk (Q_HA_HO348 (hon 0 (by kernel_rfl)))
      refine value_ (w1 := w') (v := .string (cat (cat (cat (rdOf ByteArray.empty y346 a0_2) (⟨#[32]⟩ : ByteArray)) t350) (⟨#[47]⟩ : ByteArray))) (by rfl) rfl ?_ ?_
      · go_simp
        (try simp only [i64_w])
        try rfl
      refine hK.out _ _ ⟨v347, adz_v347, m3_, (by rw [ha.out]; exact putSel_upk 8 hb_ rfl rfl rfl), Q_BK345, Q_HB, Q_HO348, Q_HA_HO348, Q_X3_⟩
    refine steps_cons ?_ ?_
    · rintro b a w' ⟨v347, adz_v347, m3_, ha, Q_BK345, Q_HB, Q_HO348, Q_HA_HO348, Q_X3_⟩ hb_ hon hoff
      refine ⟨_, rfl, fun K hK => ?_⟩
      have e15 : a.tmps[15]? = some (.pointer (some ⟨gb345, 0, none⟩)) := by rw [ha]; exact (putSel_off rfl).trans rfl
      replace ha := Aside0.mk ha
      have BK345 := Aside0.mk Q_BK345
      have HB := Aside0.mk Q_HB
      have hc0_ : w'.cell? ⟨gb345, 0, none⟩ = some (.int .i64 a0_0) := (blk_cell BK345.out 0).trans rfl
      have hc1_ : w'.cell? ⟨gb345, 1, none⟩ = some (.int .i64 a0_1) := (blk_cell BK345.out 1).trans rfl
      have hc2_ : w'.cell? ⟨gb345, 2, none⟩ = some (.int .i64 a0_2) := (blk_cell BK345.out 2).trans rfl
      have hc3_ : w'.cell? ⟨gb345, 3, none⟩ = some (.int .i64 a0_3) := (blk_cell BK345.out 3).trans rfl
      have hc4_ : w'.cell? ⟨gb345, 4, none⟩ = some (.int .i64 a0_4) := (blk_cell BK345.out 4).trans rfl
      refine value_ (w1 := w') (v := .int .i64 a0_0) (by rfl) rfl ?_ ?_
      · go_simp
        (try simp only [i64_w])
        try rfl
      refine hK.out _ _ ⟨v347, adz_v347, m3_, (by rw [ha.out]; exact putSel_upk 9 hb_ rfl rfl rfl), Q_BK345, Q_HB, Q_HO348, Q_HA_HO348, Q_X3_⟩
    refine steps_cons ?_ ?_
    · rintro b a w' ⟨v347, adz_v347, m3_, ha, Q_BK345, Q_HB, Q_HO348, Q_HA_HO348, Q_X3_⟩ hb_ hon hoff
      refine ⟨_, rfl, fun K hK => ?_⟩
      have e16 : a.tmps[16]? = some (.int .i64 a0_0) := by rw [ha]; exact putSel_on (e := (12, 16, .int .i64 a0_0)) 9 rfl rfl (hon 12 (by kernel_rfl)) rfl
      replace ha := Aside0.mk ha
      have BK345 := Aside0.mk Q_BK345
      have HB := Aside0.mk Q_HB
      refine goes_ Tryd.func52 (by kernel_rfl) rfl #[.int .i64 a0_0] (by rfl) rfl rfl zz73 ?_
      with_reducible refine (spec_l1Num.calls a0_0 t351 _ A8.out).mono ?_
      rintro e w18 ⟨rfl, hb⟩
      refine ⟨_, rfl, ?_⟩
      have n0_ := Aside0.mk (blk_below (qb BK345.out) hb)
      have n1_ := Aside0.mk (below_step zz27 hb)
      have z_HO348 := fun (h0_ : b 0 = true) => (show Kd.R Kd.string 9 w18 w.heap.size (fun _ => True) v347 y346 from zz92)
      clear BK345
      clear HB
      have BK345 := n0_
      have HB := n1_
      clear n0_ n1_
      (try clear hb)
      (try clear hb2)
      (try clear hk)
      (try clear hi)
      refine hK.out _ _ ⟨v347, adz_v347, m3_, (by rw [ha.out]; exact putSel_upk 10 hb_ rfl rfl rfl), (qb BK345.out), zz27, z_HO348, Q_HA_HO348, Q_X3_⟩
    refine steps_cons ?_ ?_
    · rintro b a w' ⟨v347, adz_v347, m3_, ha, Q_BK345, Q_HB, Q_HO348, Q_HA_HO348, Q_X3_⟩ hb_ hon hoff
      refine ⟨_, rfl, fun K hK => ?_⟩
      have e14 : a.tmps[14]? = some (.string (cat (cat (cat (rdOf ByteArray.empty y346 a0_2) (⟨#[32]⟩ : ByteArray)) t350) (⟨#[47]⟩ : ByteArray))) := by rw [ha]; exact putSel_on (e := (10, 14, .string (cat (cat (cat (rdOf ByteArray.empty y346 a0_2) (⟨#[32]⟩ : ByteArray)) t350) (⟨#[47]⟩ : ByteArray)))) 8 rfl rfl (hon 10 (by kernel_rfl)) rfl
      have e17 : a.tmps[17]? = some (.string t351) := by rw [ha]; exact putSel_on (e := (13, 17, .string t351)) 10 rfl rfl (hon 13 (by kernel_rfl)) rfl
      replace ha := Aside0.mk ha
      have BK345 := Aside0.mk Q_BK345
      have HB := Aside0.mk Q_HB
      have HO348 := Aside0.mk (Q_HO348 (hon 0 (by kernel_rfl)))
      have HA_HO348 := Aside0.mk (Q_HA_HO348 (hon 0 (by kernel_rfl)))
      refine value_ (w1 := w') (v := .string (cat (cat (cat (cat (rdOf ByteArray.empty y346 a0_2) (⟨#[32]⟩ : ByteArray)) t350) (⟨#[47]⟩ : ByteArray)) t351)) (by rfl) rfl ?_ ?_
      · go_simp
        (try simp only [i64_w])
        try rfl
      refine hK.out _ _ ⟨v347, adz_v347, m3_, (by rw [ha.out]; exact putSel_upk 11 hb_ rfl rfl rfl), Q_BK345, Q_HB, Q_HO348, Q_HA_HO348, Q_X3_⟩
    refine steps_cons ?_ ?_
    · rintro b a w' ⟨v347, adz_v347, m3_, ha, Q_BK345, Q_HB, Q_HO348, Q_HA_HO348, Q_X3_⟩ hb_ hon hoff
      refine ⟨_, rfl, fun K hK => ?_⟩
      have e18 : a.tmps[18]? = some (.string (cat (cat (cat (cat (rdOf ByteArray.empty y346 a0_2) (⟨#[32]⟩ : ByteArray)) t350) (⟨#[47]⟩ : ByteArray)) t351)) := by rw [ha]; exact putSel_on (e := (14, 18, .string (cat (cat (cat (cat (rdOf ByteArray.empty y346 a0_2) (⟨#[32]⟩ : ByteArray)) t350) (⟨#[47]⟩ : ByteArray)) t351))) 11 rfl rfl (hon 14 (by kernel_rfl)) rfl
      replace ha := Aside0.mk ha
      have BK345 := Aside0.mk Q_BK345
      have HB := Aside0.mk Q_HB
      have HO348 := Aside0.mk (Q_HO348 (hon 0 (by kernel_rfl)))
      have HA_HO348 := Aside0.mk (Q_HA_HO348 (hon 0 (by kernel_rfl)))
      refine value_ (w1 := w') (v := .string (cat (cat (cat (cat (rdOf ByteArray.empty y346 a0_2) (⟨#[32]⟩ : ByteArray)) t350) (⟨#[47]⟩ : ByteArray)) t351)) (by rfl) rfl ?_ ?_
      · go_simp
        (try simp only [i64_w])
        try rfl
      refine hK.out _ _ ⟨v347, adz_v347, m3_, (by rw [ha.out]; exact putSel_upk 12 hb_ rfl rfl rfl), Q_BK345, Q_HB, Q_HO348, Q_HA_HO348, Q_X3_⟩
    exact steps_nil
  rintro b a w21 hall ⟨v347, adz_v347, m3_, ha, Q_BK345, Q_HB, Q_HO348, Q_HA_HO348, Q_X3_⟩
  clear BK345 HB
  have hb0_ := hall 0 (by kernel_rfl)
  have hb2_ := hall 2 (by kernel_rfl)
  have hb3_ := hall 3 (by kernel_rfl)
  have hb4_ := hall 4 (by kernel_rfl)
  have hb5_ := hall 5 (by kernel_rfl)
  have hb7_ := hall 7 (by kernel_rfl)
  have hb8_ := hall 8 (by kernel_rfl)
  have hb9_ := hall 9 (by kernel_rfl)
  have hb10_ := hall 10 (by kernel_rfl)
  have hb12_ := hall 12 (by kernel_rfl)
  have hb13_ := hall 13 (by kernel_rfl)
  have hb14_ := hall 14 (by kernel_rfl)
  have hb15_ := hall 15 (by kernel_rfl)
  subst ha
  obtain rfl := Q_X3_ hb3_
  simp only [putSel, hb0_, hb2_, hb3_, hb4_, hb5_, hb7_, hb8_, hb9_, hb10_, hb12_, hb13_, hb14_, hb15_, if_true, Act.put, List.setIfInBounds_toArray, List.set_cons_zero, List.set_cons_succ]
  have BK345 := Aside0.mk Q_BK345
  clear Q_BK345
  have HB := Aside0.mk Q_HB
  clear Q_HB
  have HO348 := Aside0.mk (Q_HO348 hb0_)
  clear Q_HO348
  have HA_HO348 := Aside0.mk (Q_HA_HO348 hb0_)
  clear Q_HA_HO348
  clear hall hb0_ hb2_ hb3_ hb4_ hb5_ hb7_ hb8_ hb9_ hb10_ hb12_ hb13_ hb14_ hb15_
  obtain ⟨co22, eo22⟩ := HA_HO348.out
  clear HA_HO348
  subst eo22
  obtain ⟨hcz23_0, hcz23_1, hcz23_2, hcz23_3, hcz23_4, hfz23_0, hfz23_1, hfz23_2, hfz23_3, hfz23_4⟩ := qc5 BK345.out
  try go_wp2_with (first | ((with_reducible refine gate_callee (f := 52) rfl ?_); refine qcall 26 Tryd.func52 rfl #[.int .i64 a0_3] ?_; (with_reducible refine (spec_l1Num.calls a0_3 t352 _ A12.out).mono ?_); rintro e w24 ⟨rfl, hb⟩; refine ⟨_, rfl, ?_⟩; refine qs3 (Kd.R_below (qr HO348.out) hb) (blk_below (qb BK345.out) hb) (below_step zz27 hb) ?_; clear HO348 BK345 HB; intro HO348 BK345 HB; (try clear hb); (try clear hb2); (try clear hk); (try clear hi)))
  go_ret
  exact ⟨zz9, zz27⟩

end

end Go.Proofs.YtneaeaoemhghdaaDoor.G
