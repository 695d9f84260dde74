-- Written by a program of this session (wip/pd.py), which calls the kit's print; externals' contracts by hand.
import Derived.Test.YtokmidpeeejahaaDoorUGx0
import Derived.Test.YtokmidpeeejahaaDoorUGx4
import Derived.Test.YtokmidpeeejahaaDoorUGx5
import Derived.Test.YtokmidpeeejahaaDoorUGx7
import Derived.Test.YtokmidpeeejahaaDoorUGx13
import Derived.Test.YtokmidpeeejahaaDoorUGx14
namespace Go.Proofs.YtokmidpeeejahaaDoor.G
open Go.RowKit Go.Proofs.YtokmidpeeejahaaDoorW.PrintWords Go.Proofs.YtokmidpeeejahaaDoorW.PrintLast Go.Proofs.YtokmidpeeejahaaDoorW.PrintMore
attribute [local go_sem] max2_int min2_int max_two min_two max_three min_three max_four min_four   -- for this text's walks alone
set_option linter.unusedVariables false
set_option linter.unusedSimpArgs false

section
attribute [local go_sem high] run_add_cat run_slice_cat run_slice_cat_h run_slice_cat_l run_slice_cat_all
/-! ### spec_l1Cur_spoilt: function 55 -/
def spec_l1Cur_spoilt.f (s0_0 : List Int) (s0_1 : Int) (s0_2 : Int) (a1 : ByteArray) (a2 : ByteArray) : Option (ByteArray × Int × Int) := if a1.toList = ([] : List UInt8) then (if 0 ≤ 1 then (if 1 ≤ (a2.size : Int) then (some (subs a2 0 1, s0_1, s0_2)) else (none)) else (none)) else ((spec_l1Cur_pick.f s0_0 s0_1 s0_2 (a1.size : Int)).bind fun bt447 => ((spec_l1Cur_pick.f s0_0 bt447.2.1 bt447.2.2 (a2.size : Int)).bind fun bt450 => (if 0 ≤ bt450.1 then (if bt450.1 ≤ (a2.size : Int) then (if 0 ≤ 1 then (if 1 ≤ ((subs a2 (bt450.1 : Int).toNat a2.size).size : Int) then ((spec_l1Cur_pick.f s0_0 bt450.2.1 bt450.2.2 3).bind fun bt453 => (if bt453.1 = 0 then (if 0 ≤ bt447.1 then (if bt447.1 ≤ (a1.size : Int) then (if (subs a1 0 (bt447.1 : Int).toNat).size + (subs (subs a2 (bt450.1 : Int).toNat a2.size) 0 1).size ≤ 9223372036854775807 then (if (cat (subs a1 0 (bt447.1 : Int).toNat) (subs (subs a2 (bt450.1 : Int).toNat a2.size) 0 1)).size + (subs a1 (bt447.1 : Int).toNat a1.size).size ≤ 9223372036854775807 then (some (cat (cat (subs a1 0 (bt447.1 : Int).toNat) (subs (subs a2 (bt450.1 : Int).toNat a2.size) 0 1)) (subs a1 (bt447.1 : Int).toNat a1.size), bt453.2.1, bt453.2.2)) else (none)) else (none)) else (none)) else (none)) else (if bt453.1 = 1 then (if 0 ≤ bt447.1 then (if bt447.1 ≤ (a1.size : Int) then (if (subs a1 0 (bt447.1 : Int).toNat).size + (subs (subs a2 (bt450.1 : Int).toNat a2.size) 0 1).size ≤ 9223372036854775807 then (if 0 ≤ (wrap64 (bt447.1 + 1)) then (if (wrap64 (bt447.1 + 1)) ≤ (a1.size : Int) then (if (cat (subs a1 0 (bt447.1 : Int).toNat) (subs (subs a2 (bt450.1 : Int).toNat a2.size) 0 1)).size + (subs a1 ((wrap64 (bt447.1 + 1)) : Int).toNat a1.size).size ≤ 9223372036854775807 then (some (cat (cat (subs a1 0 (bt447.1 : Int).toNat) (subs (subs a2 (bt450.1 : Int).toNat a2.size) 0 1)) (subs a1 ((wrap64 (bt447.1 + 1)) : Int).toNat a1.size), bt453.2.1, bt453.2.2)) else (none)) else (none)) else (none)) else (none)) else (none)) else (none)) else (if 0 ≤ bt447.1 then (if bt447.1 ≤ (a1.size : Int) then (if 0 ≤ (wrap64 (bt447.1 + 1)) then (if (wrap64 (bt447.1 + 1)) ≤ (a1.size : Int) then (if (subs a1 0 (bt447.1 : Int).toNat).size + (subs a1 ((wrap64 (bt447.1 + 1)) : Int).toNat a1.size).size ≤ 9223372036854775807 then (some (cat (subs a1 0 (bt447.1 : Int).toNat) (subs a1 ((wrap64 (bt447.1 + 1)) : Int).toNat a1.size), bt453.2.1, bt453.2.2)) else (none)) else (none)) else (none)) else (none)) else (none))))) else (none)) else (none)) else (none)) else (none))))
set_option maxHeartbeats 8000000 in
set_option maxRecDepth 100000 in
theorem spec_l1Cur_spoilt.calls (g : Nat) (s0_0 : List Int) (s0_1 : Int) (s0_2 : Int) (a1 : ByteArray) (a2 : ByteArray) (r1 : ByteArray) (r2 : Int) (r3 : Int) (w0 w : World) (hI : IsS70 w0 w g s0_0 s0_1 s0_2) (hB : Below w0.heap.size w0 w) (h : spec_l1Cur_spoilt.f s0_0 s0_1 s0_2 a1 a2 = some (r1, r2, r3)) :
    Calls Tryd.prog 55 #[.pointer (some ⟨g, 0, none⟩), .string a1, .string a2] w fun e w' => e = .returned (.string r1) ∧ IsS70 w0 w' g s0_0 r2 r3 ∧ Below w0.heap.size w0 w' ∧ KeepBut w w' g none := by
  have HI0 := Aside0.mk hI
  have HK := Aside0.mk (KeepBut.refl w g none)
  have HL := Aside0.mk hB.size
  clear hI
  have HW0 := Aside0.mk hB.size
  have HB := Aside0.mk hB
  clear hB
  have H : (if a1.toList = ([] : List UInt8) then (if 0 ≤ 1 then (if 1 ≤ (a2.size : Int) then (some (subs a2 0 1, s0_1, s0_2)) else (none)) else (none)) else ((spec_l1Cur_pick.f s0_0 s0_1 s0_2 (a1.size : Int)).bind fun bt447 => ((spec_l1Cur_pick.f s0_0 bt447.2.1 bt447.2.2 (a2.size : Int)).bind fun bt450 => (if 0 ≤ bt450.1 then (if bt450.1 ≤ (a2.size : Int) then (if 0 ≤ 1 then (if 1 ≤ ((subs a2 (bt450.1 : Int).toNat a2.size).size : Int) then ((spec_l1Cur_pick.f s0_0 bt450.2.1 bt450.2.2 3).bind fun bt453 => (if bt453.1 = 0 then (if 0 ≤ bt447.1 then (if bt447.1 ≤ (a1.size : Int) then (if (subs a1 0 (bt447.1 : Int).toNat).size + (subs (subs a2 (bt450.1 : Int).toNat a2.size) 0 1).size ≤ 9223372036854775807 then (if (cat (subs a1 0 (bt447.1 : Int).toNat) (subs (subs a2 (bt450.1 : Int).toNat a2.size) 0 1)).size + (subs a1 (bt447.1 : Int).toNat a1.size).size ≤ 9223372036854775807 then (some (cat (cat (subs a1 0 (bt447.1 : Int).toNat) (subs (subs a2 (bt450.1 : Int).toNat a2.size) 0 1)) (subs a1 (bt447.1 : Int).toNat a1.size), bt453.2.1, bt453.2.2)) else (none)) else (none)) else (none)) else (none)) else (if bt453.1 = 1 then (if 0 ≤ bt447.1 then (if bt447.1 ≤ (a1.size : Int) then (if (subs a1 0 (bt447.1 : Int).toNat).size + (subs (subs a2 (bt450.1 : Int).toNat a2.size) 0 1).size ≤ 9223372036854775807 then (if 0 ≤ (wrap64 (bt447.1 + 1)) then (if (wrap64 (bt447.1 + 1)) ≤ (a1.size : Int) then (if (cat (subs a1 0 (bt447.1 : Int).toNat) (subs (subs a2 (bt450.1 : Int).toNat a2.size) 0 1)).size + (subs a1 ((wrap64 (bt447.1 + 1)) : Int).toNat a1.size).size ≤ 9223372036854775807 then (some (cat (cat (subs a1 0 (bt447.1 : Int).toNat) (subs (subs a2 (bt450.1 : Int).toNat a2.size) 0 1)) (subs a1 ((wrap64 (bt447.1 + 1)) : Int).toNat a1.size), bt453.2.1, bt453.2.2)) else (none)) else (none)) else (none)) else (none)) else (none)) else (none)) else (if 0 ≤ bt447.1 then (if bt447.1 ≤ (a1.size : Int) then (if 0 ≤ (wrap64 (bt447.1 + 1)) then (if (wrap64 (bt447.1 + 1)) ≤ (a1.size : Int) then (if (subs a1 0 (bt447.1 : Int).toNat).size + (subs a1 ((wrap64 (bt447.1 + 1)) : Int).toNat a1.size).size ≤ 9223372036854775807 then (some (cat (subs a1 0 (bt447.1 : Int).toNat) (subs a1 ((wrap64 (bt447.1 + 1)) : Int).toNat a1.size), bt453.2.1, bt453.2.2)) else (none)) else (none)) else (none)) else (none)) else (none))))) else (none)) else (none)) else (none)) else (none))))) = some (r1, r2, r3) := h
  clear h
  by_cases c4 : a1.toList = ([] : List UInt8)
  · rw [if_pos c4] at H
    have c4b0 : (a1.toList == ([] : List UInt8)) = true := beq_iff_eq.mpr c4
    have c4b1 : (a1.toList != ([] : List UInt8)) = false := bne_eq_false_iff_eq.mpr c4
    clear c4
    by_cases c5 : 0 ≤ 1
    · rw [if_pos c5] at H
      have c5b0 := eq_true c5
      have c5b1 : decide (0 ≤ 1) = true := decide_eq_true c5
      clear c5
      by_cases c6 : 1 ≤ (a2.size : Int)
      · rw [if_pos c6] at H
        have c6b0 := eq_true c6
        have c6b1 : decide (1 ≤ (a2.size : Int)) = true := decide_eq_true c6
        clear c6
        simp only [Option.some.injEq, Prod.mk.injEq] at H
        obtain ⟨rfl, rfl, rfl⟩ := H
        go_enter Tryd.func55, Tryd.ntmps55
        go_wp2
        repeat (go_quiet (fail); try go_wp2)
        go_ret
        exact ⟨by first | rfl | (simp [errW_none, errW_some] <;> rfl) | (simp [*, errW_none, errW_some] <;> rfl), by repeat (first | (with_reducible first | exact HI0.out | apply IsS70.alloc | apply IsS70.drewN | apply IsS70.drew | apply IsS70.set_1 | apply IsS70.set_2) | exact HI0.out), by repeat (first | (with_reducible first | exact HB.out | apply below_alloc | apply pw_below_drewN | apply below_drew1 | refine below_set ?_ (IsS70.ge HI0.out)) | exact HB.out), by repeat (first | (with_reducible first | exact HK.out | apply KeepBut.set_ | apply keep_drewN | apply keep_drew | apply keep_alloc) | exact HK.out)⟩
      · rw [if_neg c6] at H
        exact absurd H (by simp)
    · rw [if_neg c5] at H
      exact absurd H (by simp)
  · rw [if_neg c4] at H
    have c4b0 : (a1.toList == ([] : List UInt8)) = false := beq_eq_false_iff_ne.mpr c4
    have c4b1 : (a1.toList != ([] : List UInt8)) = true := bne_iff_ne.mpr c4
    replace H := Option.bind_eq_some_iff.mp H
    obtain ⟨⟨t447, t448, t449⟩, A70, H⟩ := H
    replace H : ((spec_l1Cur_pick.f s0_0 t448 t449 (a2.size : Int)).bind fun bt450 => (if 0 ≤ bt450.1 then (if bt450.1 ≤ (a2.size : Int) then (if 0 ≤ 1 then (if 1 ≤ ((subs a2 (bt450.1 : Int).toNat a2.size).size : Int) then ((spec_l1Cur_pick.f s0_0 bt450.2.1 bt450.2.2 3).bind fun bt453 => (if bt453.1 = 0 then (if 0 ≤ t447 then (if t447 ≤ (a1.size : Int) then (if (subs a1 0 (t447 : Int).toNat).size + (subs (subs a2 (bt450.1 : Int).toNat a2.size) 0 1).size ≤ 9223372036854775807 then (if (cat (subs a1 0 (t447 : Int).toNat) (subs (subs a2 (bt450.1 : Int).toNat a2.size) 0 1)).size + (subs a1 (t447 : Int).toNat a1.size).size ≤ 9223372036854775807 then (some (cat (cat (subs a1 0 (t447 : Int).toNat) (subs (subs a2 (bt450.1 : Int).toNat a2.size) 0 1)) (subs a1 (t447 : Int).toNat a1.size), bt453.2.1, bt453.2.2)) else (none)) else (none)) else (none)) else (none)) else (if bt453.1 = 1 then (if 0 ≤ t447 then (if t447 ≤ (a1.size : Int) then (if (subs a1 0 (t447 : Int).toNat).size + (subs (subs a2 (bt450.1 : Int).toNat a2.size) 0 1).size ≤ 9223372036854775807 then (if 0 ≤ (wrap64 (t447 + 1)) then (if (wrap64 (t447 + 1)) ≤ (a1.size : Int) then (if (cat (subs a1 0 (t447 : Int).toNat) (subs (subs a2 (bt450.1 : Int).toNat a2.size) 0 1)).size + (subs a1 ((wrap64 (t447 + 1)) : Int).toNat a1.size).size ≤ 9223372036854775807 then (some (cat (cat (subs a1 0 (t447 : Int).toNat) (subs (subs a2 (bt450.1 : Int).toNat a2.size) 0 1)) (subs a1 ((wrap64 (t447 + 1)) : Int).toNat a1.size), bt453.2.1, bt453.2.2)) else (none)) else (none)) else (none)) else (none)) else (none)) else (none)) else (if 0 ≤ t447 then (if t447 ≤ (a1.size : Int) then (if 0 ≤ (wrap64 (t447 + 1)) then (if (wrap64 (t447 + 1)) ≤ (a1.size : Int) then (if (subs a1 0 (t447 : Int).toNat).size + (subs a1 ((wrap64 (t447 + 1)) : Int).toNat a1.size).size ≤ 9223372036854775807 then (some (cat (subs a1 0 (t447 : Int).toNat) (subs a1 ((wrap64 (t447 + 1)) : Int).toNat a1.size), bt453.2.1, bt453.2.2)) else (none)) else (none)) else (none)) else (none)) else (none))))) else (none)) else (none)) else (none)) else (none))) = some (r1, r2, r3) := H
    have A7 := Aside0.mk A70
    clear A70
    replace H := Option.bind_eq_some_iff.mp H
    obtain ⟨⟨t450, t451, t452⟩, A80, H⟩ := H
    replace H : (if 0 ≤ t450 then (if t450 ≤ (a2.size : Int) then (if 0 ≤ 1 then (if 1 ≤ ((subs a2 (t450 : Int).toNat a2.size).size : Int) then ((spec_l1Cur_pick.f s0_0 t451 t452 3).bind fun bt453 => (if bt453.1 = 0 then (if 0 ≤ t447 then (if t447 ≤ (a1.size : Int) then (if (subs a1 0 (t447 : Int).toNat).size + (subs (subs a2 (t450 : Int).toNat a2.size) 0 1).size ≤ 9223372036854775807 then (if (cat (subs a1 0 (t447 : Int).toNat) (subs (subs a2 (t450 : Int).toNat a2.size) 0 1)).size + (subs a1 (t447 : Int).toNat a1.size).size ≤ 9223372036854775807 then (some (cat (cat (subs a1 0 (t447 : Int).toNat) (subs (subs a2 (t450 : Int).toNat a2.size) 0 1)) (subs a1 (t447 : Int).toNat a1.size), bt453.2.1, bt453.2.2)) else (none)) else (none)) else (none)) else (none)) else (if bt453.1 = 1 then (if 0 ≤ t447 then (if t447 ≤ (a1.size : Int) then (if (subs a1 0 (t447 : Int).toNat).size + (subs (subs a2 (t450 : Int).toNat a2.size) 0 1).size ≤ 9223372036854775807 then (if 0 ≤ (wrap64 (t447 + 1)) then (if (wrap64 (t447 + 1)) ≤ (a1.size : Int) then (if (cat (subs a1 0 (t447 : Int).toNat) (subs (subs a2 (t450 : Int).toNat a2.size) 0 1)).size + (subs a1 ((wrap64 (t447 + 1)) : Int).toNat a1.size).size ≤ 9223372036854775807 then (some (cat (cat (subs a1 0 (t447 : Int).toNat) (subs (subs a2 (t450 : Int).toNat a2.size) 0 1)) (subs a1 ((wrap64 (t447 + 1)) : Int).toNat a1.size), bt453.2.1, bt453.2.2)) else (none)) else (none)) else (none)) else (none)) else (none)) else (none)) else (if 0 ≤ t447 then (if t447 ≤ (a1.size : Int) then (if 0 ≤ (wrap64 (t447 + 1)) then (if (wrap64 (t447 + 1)) ≤ (a1.size : Int) then (if (subs a1 0 (t447 : Int).toNat).size + (subs a1 ((wrap64 (t447 + 1)) : Int).toNat a1.size).size ≤ 9223372036854775807 then (some (cat (subs a1 0 (t447 : Int).toNat) (subs a1 ((wrap64 (t447 + 1)) : Int).toNat a1.size), bt453.2.1, bt453.2.2)) else (none)) else (none)) else (none)) else (none)) else (none))))) else (none)) else (none)) else (none)) else (none)) = some (r1, r2, r3) := H
    have A8 := Aside0.mk A80
    clear A80
    by_cases c9 : 0 ≤ t450
    · rw [if_pos c9] at H
      have c9b0 := eq_true c9
      have c9b1 : decide (0 ≤ t450) = true := decide_eq_true c9
      clear c9
      by_cases c10 : t450 ≤ (a2.size : Int)
      · rw [if_pos c10] at H
        have c10b0 := eq_true c10
        have c10b1 : decide (t450 ≤ (a2.size : Int)) = true := decide_eq_true c10
        clear c10
        by_cases c11 : 0 ≤ 1
        · rw [if_pos c11] at H
          have c11b0 := eq_true c11
          have c11b1 : decide (0 ≤ 1) = true := decide_eq_true c11
          clear c11
          by_cases c12 : 1 ≤ ((subs a2 (t450 : Int).toNat a2.size).size : Int)
          · rw [if_pos c12] at H
            have c12b0 := eq_true c12
            have c12b1 : decide (1 ≤ ((subs a2 (t450 : Int).toNat a2.size).size : Int)) = true := decide_eq_true c12
            clear c12
            replace H := Option.bind_eq_some_iff.mp H
            obtain ⟨⟨t453, t454, t455⟩, A130, H⟩ := H
            replace H : (if t453 = 0 then (if 0 ≤ t447 then (if t447 ≤ (a1.size : Int) then (if (subs a1 0 (t447 : Int).toNat).size + (subs (subs a2 (t450 : Int).toNat a2.size) 0 1).size ≤ 9223372036854775807 then (if (cat (subs a1 0 (t447 : Int).toNat) (subs (subs a2 (t450 : Int).toNat a2.size) 0 1)).size + (subs a1 (t447 : Int).toNat a1.size).size ≤ 9223372036854775807 then (some (cat (cat (subs a1 0 (t447 : Int).toNat) (subs (subs a2 (t450 : Int).toNat a2.size) 0 1)) (subs a1 (t447 : Int).toNat a1.size), t454, t455)) else (none)) else (none)) else (none)) else (none)) else (if t453 = 1 then (if 0 ≤ t447 then (if t447 ≤ (a1.size : Int) then (if (subs a1 0 (t447 : Int).toNat).size + (subs (subs a2 (t450 : Int).toNat a2.size) 0 1).size ≤ 9223372036854775807 then (if 0 ≤ (wrap64 (t447 + 1)) then (if (wrap64 (t447 + 1)) ≤ (a1.size : Int) then (if (cat (subs a1 0 (t447 : Int).toNat) (subs (subs a2 (t450 : Int).toNat a2.size) 0 1)).size + (subs a1 ((wrap64 (t447 + 1)) : Int).toNat a1.size).size ≤ 9223372036854775807 then (some (cat (cat (subs a1 0 (t447 : Int).toNat) (subs (subs a2 (t450 : Int).toNat a2.size) 0 1)) (subs a1 ((wrap64 (t447 + 1)) : Int).toNat a1.size), t454, t455)) else (none)) else (none)) else (none)) else (none)) else (none)) else (none)) else (if 0 ≤ t447 then (if t447 ≤ (a1.size : Int) then (if 0 ≤ (wrap64 (t447 + 1)) then (if (wrap64 (t447 + 1)) ≤ (a1.size : Int) then (if (subs a1 0 (t447 : Int).toNat).size + (subs a1 ((wrap64 (t447 + 1)) : Int).toNat a1.size).size ≤ 9223372036854775807 then (some (cat (subs a1 0 (t447 : Int).toNat) (subs a1 ((wrap64 (t447 + 1)) : Int).toNat a1.size), t454, t455)) else (none)) else (none)) else (none)) else (none)) else (none)))) = some (r1, r2, r3) := H
            have A13 := Aside0.mk A130
            clear A130
            by_cases c14 : t453 = 0
            · rw [if_pos c14] at H
              have c14b0 : (t453 == 0) = true := beq_iff_eq.mpr c14
              have c14b1 : (t453 != 0) = false := bne_eq_false_iff_eq.mpr c14
              clear c14
              by_cases c15 : 0 ≤ t447
              · rw [if_pos c15] at H
                have c15b0 := eq_true c15
                have c15b1 : decide (0 ≤ t447) = true := decide_eq_true c15
                clear c15
                by_cases c16 : t447 ≤ (a1.size : Int)
                · rw [if_pos c16] at H
                  have c16b0 := eq_true c16
                  have c16b1 : decide (t447 ≤ (a1.size : Int)) = true := decide_eq_true c16
                  clear c16
                  by_cases c17 : (subs a1 0 (t447 : Int).toNat).size + (subs (subs a2 (t450 : Int).toNat a2.size) 0 1).size ≤ 9223372036854775807
                  · rw [if_pos c17] at H
                    have c17b0 := eq_true c17
                    have c17b1 : decide ((subs a1 0 (t447 : Int).toNat).size + (subs (subs a2 (t450 : Int).toNat a2.size) 0 1).size ≤ 9223372036854775807) = true := decide_eq_true c17
                    try have c17b2 : (9223372036854775807 < (subs a1 0 (t447 : Int).toNat).size + (subs (subs a2 (t450 : Int).toNat a2.size) 0 1).size) = False := eq_false (Nat.not_lt.2 c17)
                    clear c17
                    have c18b0 := eq_true (of_decide_eq_true (by first | (with_reducible assumption) | assumption) : 0 ≤ t447)
                    have c19b0 := eq_true (of_decide_eq_true (by first | (with_reducible assumption) | assumption) : t447 ≤ (a1.size : Int))
                    by_cases c20 : (cat (subs a1 0 (t447 : Int).toNat) (subs (subs a2 (t450 : Int).toNat a2.size) 0 1)).size + (subs a1 (t447 : Int).toNat a1.size).size ≤ 9223372036854775807
                    · rw [if_pos c20] at H
                      have c20b0 := eq_true c20
                      have c20b1 : decide ((cat (subs a1 0 (t447 : Int).toNat) (subs (subs a2 (t450 : Int).toNat a2.size) 0 1)).size + (subs a1 (t447 : Int).toNat a1.size).size ≤ 9223372036854775807) = true := decide_eq_true c20
                      try have c20b2 : (9223372036854775807 < (cat (subs a1 0 (t447 : Int).toNat) (subs (subs a2 (t450 : Int).toNat a2.size) 0 1)).size + (subs a1 (t447 : Int).toNat a1.size).size) = False := eq_false (Nat.not_lt.2 c20)
                      clear c20
                      simp only [Option.some.injEq, Prod.mk.injEq] at H
                      obtain ⟨rfl, rfl, rfl⟩ := H
                      go_enter Tryd.func55, Tryd.ntmps55
                      go_wp2_with (first | (go_at_call 54; (with_reducible refine (spec_l1Cur_pick.calls g s0_0 s0_1 s0_2 (a1.size : Int) t447 t448 t449 w0 _ ?side1 ?side2 A7.out).mono ?_); (case side1 => repeat (first | (with_reducible first | exact HI0.out | apply IsS70.alloc | apply IsS70.drewN | apply IsS70.drew | apply IsS70.set_1 | apply IsS70.set_2) | exact HI0.out)); (case side2 => repeat (first | (with_reducible first | exact HB.out | apply below_alloc | apply pw_below_drewN | apply below_drew1 | refine below_set ?_ (IsS70.ge HI0.out)) | exact HB.out)); rintro e w21 ⟨rfl, hi, hb, hk⟩; have n0_ := Aside0.mk (KeepBut.trans (by repeat (first | (with_reducible first | exact HK.out | apply KeepBut.set_ | apply keep_drewN | apply keep_drew | apply keep_alloc) | exact HK.out)) hk (.inl rfl)); have n1_ := Aside0.mk (hb); have n2_ := Aside0.mk (hi); clear HK; clear HB; clear HI0; have HK := n0_; have HB := n1_; have HI0 := n2_; clear n0_ n1_ n2_; (try clear hb); (try clear hb2); (try clear hk); (try clear hi)) | (go_at_call 54; (with_reducible refine (spec_l1Cur_pick.calls g s0_0 t448 t449 (a2.size : Int) t450 t451 t452 w0 _ ?side1 ?side2 A8.out).mono ?_); (case side1 => repeat (first | (with_reducible first | exact HI0.out | apply IsS70.alloc | apply IsS70.drewN | apply IsS70.drew | apply IsS70.set_1 | apply IsS70.set_2) | exact HI0.out)); (case side2 => repeat (first | (with_reducible first | exact HB.out | apply below_alloc | apply pw_below_drewN | apply below_drew1 | refine below_set ?_ (IsS70.ge HI0.out)) | exact HB.out)); rintro e w22 ⟨rfl, hi, hb, hk⟩; have n0_ := Aside0.mk (KeepBut.trans (by repeat (first | (with_reducible first | exact HK.out | apply KeepBut.set_ | apply keep_drewN | apply keep_drew | apply keep_alloc) | exact HK.out)) hk (.inl rfl)); have n1_ := Aside0.mk (hb); have n2_ := Aside0.mk (hi); clear HK; clear HB; clear HI0; have HK := n0_; have HB := n1_; have HI0 := n2_; clear n0_ n1_ n2_; (try clear hb); (try clear hb2); (try clear hk); (try clear hi)) | (go_at_call 54; (with_reducible refine (spec_l1Cur_pick.calls g s0_0 t451 t452 3 t453 t454 t455 w0 _ ?side1 ?side2 A13.out).mono ?_); (case side1 => repeat (first | (with_reducible first | exact HI0.out | apply IsS70.alloc | apply IsS70.drewN | apply IsS70.drew | apply IsS70.set_1 | apply IsS70.set_2) | exact HI0.out)); (case side2 => repeat (first | (with_reducible first | exact HB.out | apply below_alloc | apply pw_below_drewN | apply below_drew1 | refine below_set ?_ (IsS70.ge HI0.out)) | exact HB.out)); rintro e w23 ⟨rfl, hi, hb, hk⟩; have n0_ := Aside0.mk (KeepBut.trans (by repeat (first | (with_reducible first | exact HK.out | apply KeepBut.set_ | apply keep_drewN | apply keep_drew | apply keep_alloc) | exact HK.out)) hk (.inl rfl)); have n1_ := Aside0.mk (hb); have n2_ := Aside0.mk (hi); clear HK; clear HB; clear HI0; have HK := n0_; have HB := n1_; have HI0 := n2_; clear n0_ n1_ n2_; (try clear hb); (try clear hb2); (try clear hk); (try clear hi)))
                      repeat (go_quiet (first | (go_at_call 54; (with_reducible refine (spec_l1Cur_pick.calls g s0_0 s0_1 s0_2 (a1.size : Int) t447 t448 t449 w0 _ ?side1 ?side2 A7.out).mono ?_); (case side1 => repeat (first | (with_reducible first | exact HI0.out | apply IsS70.alloc | apply IsS70.drewN | apply IsS70.drew | apply IsS70.set_1 | apply IsS70.set_2) | exact HI0.out)); (case side2 => repeat (first | (with_reducible first | exact HB.out | apply below_alloc | apply pw_below_drewN | apply below_drew1 | refine below_set ?_ (IsS70.ge HI0.out)) | exact HB.out)); rintro e w21 ⟨rfl, hi, hb, hk⟩; have n0_ := Aside0.mk (KeepBut.trans (by repeat (first | (with_reducible first | exact HK.out | apply KeepBut.set_ | apply keep_drewN | apply keep_drew | apply keep_alloc) | exact HK.out)) hk (.inl rfl)); have n1_ := Aside0.mk (hb); have n2_ := Aside0.mk (hi); clear HK; clear HB; clear HI0; have HK := n0_; have HB := n1_; have HI0 := n2_; clear n0_ n1_ n2_; (try clear hb); (try clear hb2); (try clear hk); (try clear hi)) | (go_at_call 54; (with_reducible refine (spec_l1Cur_pick.calls g s0_0 t448 t449 (a2.size : Int) t450 t451 t452 w0 _ ?side1 ?side2 A8.out).mono ?_); (case side1 => repeat (first | (with_reducible first | exact HI0.out | apply IsS70.alloc | apply IsS70.drewN | apply IsS70.drew | apply IsS70.set_1 | apply IsS70.set_2) | exact HI0.out)); (case side2 => repeat (first | (with_reducible first | exact HB.out | apply below_alloc | apply pw_below_drewN | apply below_drew1 | refine below_set ?_ (IsS70.ge HI0.out)) | exact HB.out)); rintro e w22 ⟨rfl, hi, hb, hk⟩; have n0_ := Aside0.mk (KeepBut.trans (by repeat (first | (with_reducible first | exact HK.out | apply KeepBut.set_ | apply keep_drewN | apply keep_drew | apply keep_alloc) | exact HK.out)) hk (.inl rfl)); have n1_ := Aside0.mk (hb); have n2_ := Aside0.mk (hi); clear HK; clear HB; clear HI0; have HK := n0_; have HB := n1_; have HI0 := n2_; clear n0_ n1_ n2_; (try clear hb); (try clear hb2); (try clear hk); (try clear hi)) | (go_at_call 54; (with_reducible refine (spec_l1Cur_pick.calls g s0_0 t451 t452 3 t453 t454 t455 w0 _ ?side1 ?side2 A13.out).mono ?_); (case side1 => repeat (first | (with_reducible first | exact HI0.out | apply IsS70.alloc | apply IsS70.drewN | apply IsS70.drew | apply IsS70.set_1 | apply IsS70.set_2) | exact HI0.out)); (case side2 => repeat (first | (with_reducible first | exact HB.out | apply below_alloc | apply pw_below_drewN | apply below_drew1 | refine below_set ?_ (IsS70.ge HI0.out)) | exact HB.out)); rintro e w23 ⟨rfl, hi, hb, hk⟩; have n0_ := Aside0.mk (KeepBut.trans (by repeat (first | (with_reducible first | exact HK.out | apply KeepBut.set_ | apply keep_drewN | apply keep_drew | apply keep_alloc) | exact HK.out)) hk (.inl rfl)); have n1_ := Aside0.mk (hb); have n2_ := Aside0.mk (hi); clear HK; clear HB; clear HI0; have HK := n0_; have HB := n1_; have HI0 := n2_; clear n0_ n1_ n2_; (try clear hb); (try clear hb2); (try clear hk); (try clear hi))); try go_wp2_with (first | (go_at_call 54; (with_reducible refine (spec_l1Cur_pick.calls g s0_0 s0_1 s0_2 (a1.size : Int) t447 t448 t449 w0 _ ?side1 ?side2 A7.out).mono ?_); (case side1 => repeat (first | (with_reducible first | exact HI0.out | apply IsS70.alloc | apply IsS70.drewN | apply IsS70.drew | apply IsS70.set_1 | apply IsS70.set_2) | exact HI0.out)); (case side2 => repeat (first | (with_reducible first | exact HB.out | apply below_alloc | apply pw_below_drewN | apply below_drew1 | refine below_set ?_ (IsS70.ge HI0.out)) | exact HB.out)); rintro e w21 ⟨rfl, hi, hb, hk⟩; have n0_ := Aside0.mk (KeepBut.trans (by repeat (first | (with_reducible first | exact HK.out | apply KeepBut.set_ | apply keep_drewN | apply keep_drew | apply keep_alloc) | exact HK.out)) hk (.inl rfl)); have n1_ := Aside0.mk (hb); have n2_ := Aside0.mk (hi); clear HK; clear HB; clear HI0; have HK := n0_; have HB := n1_; have HI0 := n2_; clear n0_ n1_ n2_; (try clear hb); (try clear hb2); (try clear hk); (try clear hi)) | (go_at_call 54; (with_reducible refine (spec_l1Cur_pick.calls g s0_0 t448 t449 (a2.size : Int) t450 t451 t452 w0 _ ?side1 ?side2 A8.out).mono ?_); (case side1 => repeat (first | (with_reducible first | exact HI0.out | apply IsS70.alloc | apply IsS70.drewN | apply IsS70.drew | apply IsS70.set_1 | apply IsS70.set_2) | exact HI0.out)); (case side2 => repeat (first | (with_reducible first | exact HB.out | apply below_alloc | apply pw_below_drewN | apply below_drew1 | refine below_set ?_ (IsS70.ge HI0.out)) | exact HB.out)); rintro e w22 ⟨rfl, hi, hb, hk⟩; have n0_ := Aside0.mk (KeepBut.trans (by repeat (first | (with_reducible first | exact HK.out | apply KeepBut.set_ | apply keep_drewN | apply keep_drew | apply keep_alloc) | exact HK.out)) hk (.inl rfl)); have n1_ := Aside0.mk (hb); have n2_ := Aside0.mk (hi); clear HK; clear HB; clear HI0; have HK := n0_; have HB := n1_; have HI0 := n2_; clear n0_ n1_ n2_; (try clear hb); (try clear hb2); (try clear hk); (try clear hi)) | (go_at_call 54; (with_reducible refine (spec_l1Cur_pick.calls g s0_0 t451 t452 3 t453 t454 t455 w0 _ ?side1 ?side2 A13.out).mono ?_); (case side1 => repeat (first | (with_reducible first | exact HI0.out | apply IsS70.alloc | apply IsS70.drewN | apply IsS70.drew | apply IsS70.set_1 | apply IsS70.set_2) | exact HI0.out)); (case side2 => repeat (first | (with_reducible first | exact HB.out | apply below_alloc | apply pw_below_drewN | apply below_drew1 | refine below_set ?_ (IsS70.ge HI0.out)) | exact HB.out)); rintro e w23 ⟨rfl, hi, hb, hk⟩; have n0_ := Aside0.mk (KeepBut.trans (by repeat (first | (with_reducible first | exact HK.out | apply KeepBut.set_ | apply keep_drewN | apply keep_drew | apply keep_alloc) | exact HK.out)) hk (.inl rfl)); have n1_ := Aside0.mk (hb); have n2_ := Aside0.mk (hi); clear HK; clear HB; clear HI0; have HK := n0_; have HB := n1_; have HI0 := n2_; clear n0_ n1_ n2_; (try clear hb); (try clear hb2); (try clear hk); (try clear hi))))
                      go_ret
                      exact ⟨by first | rfl | (simp [errW_none, errW_some] <;> rfl) | (simp [*, errW_none, errW_some] <;> rfl), by repeat (first | (with_reducible first | exact HI0.out | apply IsS70.alloc | apply IsS70.drewN | apply IsS70.drew | apply IsS70.set_1 | apply IsS70.set_2) | exact HI0.out), by repeat (first | (with_reducible first | exact HB.out | apply below_alloc | apply pw_below_drewN | apply below_drew1 | refine below_set ?_ (IsS70.ge HI0.out)) | exact HB.out), by repeat (first | (with_reducible first | exact HK.out | apply KeepBut.set_ | apply keep_drewN | apply keep_drew | apply keep_alloc) | exact HK.out)⟩
                    · rw [if_neg c20] at H
                      exact absurd H (by simp)
                  · rw [if_neg c17] at H
                    exact absurd H (by simp)
                · rw [if_neg c16] at H
                  exact absurd H (by simp)
              · rw [if_neg c15] at H
                exact absurd H (by simp)
            · rw [if_neg c14] at H
              have c14b0 : (t453 == 0) = false := beq_eq_false_iff_ne.mpr c14
              have c14b1 : (t453 != 0) = true := bne_iff_ne.mpr c14
              by_cases c24 : t453 = 1
              · rw [if_pos c24] at H
                have c24b0 : (t453 == 1) = true := beq_iff_eq.mpr c24
                have c24b1 : (t453 != 1) = false := bne_eq_false_iff_eq.mpr c24
                clear c24
                by_cases c25 : 0 ≤ t447
                · rw [if_pos c25] at H
                  have c25b0 := eq_true c25
                  have c25b1 : decide (0 ≤ t447) = true := decide_eq_true c25
                  clear c25
                  by_cases c26 : t447 ≤ (a1.size : Int)
                  · rw [if_pos c26] at H
                    have c26b0 := eq_true c26
                    have c26b1 : decide (t447 ≤ (a1.size : Int)) = true := decide_eq_true c26
                    clear c26
                    by_cases c27 : (subs a1 0 (t447 : Int).toNat).size + (subs (subs a2 (t450 : Int).toNat a2.size) 0 1).size ≤ 9223372036854775807
                    · rw [if_pos c27] at H
                      have c27b0 := eq_true c27
                      have c27b1 : decide ((subs a1 0 (t447 : Int).toNat).size + (subs (subs a2 (t450 : Int).toNat a2.size) 0 1).size ≤ 9223372036854775807) = true := decide_eq_true c27
                      try have c27b2 : (9223372036854775807 < (subs a1 0 (t447 : Int).toNat).size + (subs (subs a2 (t450 : Int).toNat a2.size) 0 1).size) = False := eq_false (Nat.not_lt.2 c27)
                      clear c27
                      obtain ⟨ji28, hji28⟩ : ∃ j_ : Int, (wrap64 (t447 + 1)) = j_ := ⟨_, rfl⟩
                      replace H : (if 0 ≤ (ji28) then (if (ji28) ≤ (a1.size : Int) then (if (cat (subs a1 0 (t447 : Int).toNat) (subs (subs a2 (t450 : Int).toNat a2.size) 0 1)).size + (subs a1 ((ji28) : Int).toNat a1.size).size ≤ 9223372036854775807 then (some (cat (cat (subs a1 0 (t447 : Int).toNat) (subs (subs a2 (t450 : Int).toNat a2.size) 0 1)) (subs a1 ((ji28) : Int).toNat a1.size), t454, t455)) else (none)) else (none)) else (none)) = some (r1, r2, r3) := by first | (rw [hji28] at H; exact H) | (simp only [hji28] at H ⊢; exact H)
                      (try rw [hji28] at A7)
                      (try rw [hji28] at A8)
                      (try rw [hji28] at A13)
                      have hji28w : (IntKind.i64.wrap (t447 + 1)) = ji28 := (i64_w _).trans hji28
                      by_cases c29 : 0 ≤ (ji28)
                      · rw [if_pos c29] at H
                        have c29b0 := eq_true c29
                        have c29b1 : decide (0 ≤ (ji28)) = true := decide_eq_true c29
                        clear c29
                        by_cases c30 : (ji28) ≤ (a1.size : Int)
                        · rw [if_pos c30] at H
                          have c30b0 := eq_true c30
                          have c30b1 : decide ((ji28) ≤ (a1.size : Int)) = true := decide_eq_true c30
                          clear c30
                          by_cases c31 : (cat (subs a1 0 (t447 : Int).toNat) (subs (subs a2 (t450 : Int).toNat a2.size) 0 1)).size + (subs a1 ((ji28) : Int).toNat a1.size).size ≤ 9223372036854775807
                          · rw [if_pos c31] at H
                            have c31b0 := eq_true c31
                            have c31b1 : decide ((cat (subs a1 0 (t447 : Int).toNat) (subs (subs a2 (t450 : Int).toNat a2.size) 0 1)).size + (subs a1 ((ji28) : Int).toNat a1.size).size ≤ 9223372036854775807) = true := decide_eq_true c31
                            try have c31b2 : (9223372036854775807 < (cat (subs a1 0 (t447 : Int).toNat) (subs (subs a2 (t450 : Int).toNat a2.size) 0 1)).size + (subs a1 ((ji28) : Int).toNat a1.size).size) = False := eq_false (Nat.not_lt.2 c31)
                            clear c31
                            simp only [Option.some.injEq, Prod.mk.injEq] at H
                            obtain ⟨rfl, rfl, rfl⟩ := H
                            go_enter Tryd.func55, Tryd.ntmps55
                            go_wp2_with (first | (go_at_call 54; (with_reducible refine (spec_l1Cur_pick.calls g s0_0 s0_1 s0_2 (a1.size : Int) t447 t448 t449 w0 _ ?side1 ?side2 A7.out).mono ?_); (case side1 => repeat (first | (with_reducible first | exact HI0.out | apply IsS70.alloc | apply IsS70.drewN | apply IsS70.drew | apply IsS70.set_1 | apply IsS70.set_2) | exact HI0.out)); (case side2 => repeat (first | (with_reducible first | exact HB.out | apply below_alloc | apply pw_below_drewN | apply below_drew1 | refine below_set ?_ (IsS70.ge HI0.out)) | exact HB.out)); rintro e w32 ⟨rfl, hi, hb, hk⟩; have n0_ := Aside0.mk (KeepBut.trans (by repeat (first | (with_reducible first | exact HK.out | apply KeepBut.set_ | apply keep_drewN | apply keep_drew | apply keep_alloc) | exact HK.out)) hk (.inl rfl)); have n1_ := Aside0.mk (hb); have n2_ := Aside0.mk (hi); clear HK; clear HB; clear HI0; have HK := n0_; have HB := n1_; have HI0 := n2_; clear n0_ n1_ n2_; (try clear hb); (try clear hb2); (try clear hk); (try clear hi)) | (go_at_call 54; (with_reducible refine (spec_l1Cur_pick.calls g s0_0 t448 t449 (a2.size : Int) t450 t451 t452 w0 _ ?side1 ?side2 A8.out).mono ?_); (case side1 => repeat (first | (with_reducible first | exact HI0.out | apply IsS70.alloc | apply IsS70.drewN | apply IsS70.drew | apply IsS70.set_1 | apply IsS70.set_2) | exact HI0.out)); (case side2 => repeat (first | (with_reducible first | exact HB.out | apply below_alloc | apply pw_below_drewN | apply below_drew1 | refine below_set ?_ (IsS70.ge HI0.out)) | exact HB.out)); rintro e w33 ⟨rfl, hi, hb, hk⟩; have n0_ := Aside0.mk (KeepBut.trans (by repeat (first | (with_reducible first | exact HK.out | apply KeepBut.set_ | apply keep_drewN | apply keep_drew | apply keep_alloc) | exact HK.out)) hk (.inl rfl)); have n1_ := Aside0.mk (hb); have n2_ := Aside0.mk (hi); clear HK; clear HB; clear HI0; have HK := n0_; have HB := n1_; have HI0 := n2_; clear n0_ n1_ n2_; (try clear hb); (try clear hb2); (try clear hk); (try clear hi)) | (go_at_call 54; (with_reducible refine (spec_l1Cur_pick.calls g s0_0 t451 t452 3 t453 t454 t455 w0 _ ?side1 ?side2 A13.out).mono ?_); (case side1 => repeat (first | (with_reducible first | exact HI0.out | apply IsS70.alloc | apply IsS70.drewN | apply IsS70.drew | apply IsS70.set_1 | apply IsS70.set_2) | exact HI0.out)); (case side2 => repeat (first | (with_reducible first | exact HB.out | apply below_alloc | apply pw_below_drewN | apply below_drew1 | refine below_set ?_ (IsS70.ge HI0.out)) | exact HB.out)); rintro e w34 ⟨rfl, hi, hb, hk⟩; have n0_ := Aside0.mk (KeepBut.trans (by repeat (first | (with_reducible first | exact HK.out | apply KeepBut.set_ | apply keep_drewN | apply keep_drew | apply keep_alloc) | exact HK.out)) hk (.inl rfl)); have n1_ := Aside0.mk (hb); have n2_ := Aside0.mk (hi); clear HK; clear HB; clear HI0; have HK := n0_; have HB := n1_; have HI0 := n2_; clear n0_ n1_ n2_; (try clear hb); (try clear hb2); (try clear hk); (try clear hi)))
                            repeat (go_quiet (first | (go_at_call 54; (with_reducible refine (spec_l1Cur_pick.calls g s0_0 s0_1 s0_2 (a1.size : Int) t447 t448 t449 w0 _ ?side1 ?side2 A7.out).mono ?_); (case side1 => repeat (first | (with_reducible first | exact HI0.out | apply IsS70.alloc | apply IsS70.drewN | apply IsS70.drew | apply IsS70.set_1 | apply IsS70.set_2) | exact HI0.out)); (case side2 => repeat (first | (with_reducible first | exact HB.out | apply below_alloc | apply pw_below_drewN | apply below_drew1 | refine below_set ?_ (IsS70.ge HI0.out)) | exact HB.out)); rintro e w32 ⟨rfl, hi, hb, hk⟩; have n0_ := Aside0.mk (KeepBut.trans (by repeat (first | (with_reducible first | exact HK.out | apply KeepBut.set_ | apply keep_drewN | apply keep_drew | apply keep_alloc) | exact HK.out)) hk (.inl rfl)); have n1_ := Aside0.mk (hb); have n2_ := Aside0.mk (hi); clear HK; clear HB; clear HI0; have HK := n0_; have HB := n1_; have HI0 := n2_; clear n0_ n1_ n2_; (try clear hb); (try clear hb2); (try clear hk); (try clear hi)) | (go_at_call 54; (with_reducible refine (spec_l1Cur_pick.calls g s0_0 t448 t449 (a2.size : Int) t450 t451 t452 w0 _ ?side1 ?side2 A8.out).mono ?_); (case side1 => repeat (first | (with_reducible first | exact HI0.out | apply IsS70.alloc | apply IsS70.drewN | apply IsS70.drew | apply IsS70.set_1 | apply IsS70.set_2) | exact HI0.out)); (case side2 => repeat (first | (with_reducible first | exact HB.out | apply below_alloc | apply pw_below_drewN | apply below_drew1 | refine below_set ?_ (IsS70.ge HI0.out)) | exact HB.out)); rintro e w33 ⟨rfl, hi, hb, hk⟩; have n0_ := Aside0.mk (KeepBut.trans (by repeat (first | (with_reducible first | exact HK.out | apply KeepBut.set_ | apply keep_drewN | apply keep_drew | apply keep_alloc) | exact HK.out)) hk (.inl rfl)); have n1_ := Aside0.mk (hb); have n2_ := Aside0.mk (hi); clear HK; clear HB; clear HI0; have HK := n0_; have HB := n1_; have HI0 := n2_; clear n0_ n1_ n2_; (try clear hb); (try clear hb2); (try clear hk); (try clear hi)) | (go_at_call 54; (with_reducible refine (spec_l1Cur_pick.calls g s0_0 t451 t452 3 t453 t454 t455 w0 _ ?side1 ?side2 A13.out).mono ?_); (case side1 => repeat (first | (with_reducible first | exact HI0.out | apply IsS70.alloc | apply IsS70.drewN | apply IsS70.drew | apply IsS70.set_1 | apply IsS70.set_2) | exact HI0.out)); (case side2 => repeat (first | (with_reducible first | exact HB.out | apply below_alloc | apply pw_below_drewN | apply below_drew1 | refine below_set ?_ (IsS70.ge HI0.out)) | exact HB.out)); rintro e w34 ⟨rfl, hi, hb, hk⟩; have n0_ := Aside0.mk (KeepBut.trans (by repeat (first | (with_reducible first | exact HK.out | apply KeepBut.set_ | apply keep_drewN | apply keep_drew | apply keep_alloc) | exact HK.out)) hk (.inl rfl)); have n1_ := Aside0.mk (hb); have n2_ := Aside0.mk (hi); clear HK; clear HB; clear HI0; have HK := n0_; have HB := n1_; have HI0 := n2_; clear n0_ n1_ n2_; (try clear hb); (try clear hb2); (try clear hk); (try clear hi))); try go_wp2_with (first | (go_at_call 54; (with_reducible refine (spec_l1Cur_pick.calls g s0_0 s0_1 s0_2 (a1.size : Int) t447 t448 t449 w0 _ ?side1 ?side2 A7.out).mono ?_); (case side1 => repeat (first | (with_reducible first | exact HI0.out | apply IsS70.alloc | apply IsS70.drewN | apply IsS70.drew | apply IsS70.set_1 | apply IsS70.set_2) | exact HI0.out)); (case side2 => repeat (first | (with_reducible first | exact HB.out | apply below_alloc | apply pw_below_drewN | apply below_drew1 | refine below_set ?_ (IsS70.ge HI0.out)) | exact HB.out)); rintro e w32 ⟨rfl, hi, hb, hk⟩; have n0_ := Aside0.mk (KeepBut.trans (by repeat (first | (with_reducible first | exact HK.out | apply KeepBut.set_ | apply keep_drewN | apply keep_drew | apply keep_alloc) | exact HK.out)) hk (.inl rfl)); have n1_ := Aside0.mk (hb); have n2_ := Aside0.mk (hi); clear HK; clear HB; clear HI0; have HK := n0_; have HB := n1_; have HI0 := n2_; clear n0_ n1_ n2_; (try clear hb); (try clear hb2); (try clear hk); (try clear hi)) | (go_at_call 54; (with_reducible refine (spec_l1Cur_pick.calls g s0_0 t448 t449 (a2.size : Int) t450 t451 t452 w0 _ ?side1 ?side2 A8.out).mono ?_); (case side1 => repeat (first | (with_reducible first | exact HI0.out | apply IsS70.alloc | apply IsS70.drewN | apply IsS70.drew | apply IsS70.set_1 | apply IsS70.set_2) | exact HI0.out)); (case side2 => repeat (first | (with_reducible first | exact HB.out | apply below_alloc | apply pw_below_drewN | apply below_drew1 | refine below_set ?_ (IsS70.ge HI0.out)) | exact HB.out)); rintro e w33 ⟨rfl, hi, hb, hk⟩; have n0_ := Aside0.mk (KeepBut.trans (by repeat (first | (with_reducible first | exact HK.out | apply KeepBut.set_ | apply keep_drewN | apply keep_drew | apply keep_alloc) | exact HK.out)) hk (.inl rfl)); have n1_ := Aside0.mk (hb); have n2_ := Aside0.mk (hi); clear HK; clear HB; clear HI0; have HK := n0_; have HB := n1_; have HI0 := n2_; clear n0_ n1_ n2_; (try clear hb); (try clear hb2); (try clear hk); (try clear hi)) | (go_at_call 54; (with_reducible refine (spec_l1Cur_pick.calls g s0_0 t451 t452 3 t453 t454 t455 w0 _ ?side1 ?side2 A13.out).mono ?_); (case side1 => repeat (first | (with_reducible first | exact HI0.out | apply IsS70.alloc | apply IsS70.drewN | apply IsS70.drew | apply IsS70.set_1 | apply IsS70.set_2) | exact HI0.out)); (case side2 => repeat (first | (with_reducible first | exact HB.out | apply below_alloc | apply pw_below_drewN | apply below_drew1 | refine below_set ?_ (IsS70.ge HI0.out)) | exact HB.out)); rintro e w34 ⟨rfl, hi, hb, hk⟩; have n0_ := Aside0.mk (KeepBut.trans (by repeat (first | (with_reducible first | exact HK.out | apply KeepBut.set_ | apply keep_drewN | apply keep_drew | apply keep_alloc) | exact HK.out)) hk (.inl rfl)); have n1_ := Aside0.mk (hb); have n2_ := Aside0.mk (hi); clear HK; clear HB; clear HI0; have HK := n0_; have HB := n1_; have HI0 := n2_; clear n0_ n1_ n2_; (try clear hb); (try clear hb2); (try clear hk); (try clear hi))))
                            go_ret
                            exact ⟨by first | rfl | (simp [errW_none, errW_some] <;> rfl) | (simp only [← hji28]; first | rfl | (simp [errW_none, errW_some] <;> rfl)) | (simp [*, errW_none, errW_some] <;> rfl), by repeat (first | (with_reducible first | exact HI0.out | apply IsS70.alloc | apply IsS70.drewN | apply IsS70.drew | apply IsS70.set_1 | apply IsS70.set_2) | exact HI0.out), by repeat (first | (with_reducible first | exact HB.out | apply below_alloc | apply pw_below_drewN | apply below_drew1 | refine below_set ?_ (IsS70.ge HI0.out)) | exact HB.out), by repeat (first | (with_reducible first | exact HK.out | apply KeepBut.set_ | apply keep_drewN | apply keep_drew | apply keep_alloc) | exact HK.out)⟩
                          · rw [if_neg c31] at H
                            exact absurd H (by simp)
                        · rw [if_neg c30] at H
                          exact absurd H (by simp)
                      · rw [if_neg c29] at H
                        exact absurd H (by simp)
                    · rw [if_neg c27] at H
                      exact absurd H (by simp)
                  · rw [if_neg c26] at H
                    exact absurd H (by simp)
                · rw [if_neg c25] at H
                  exact absurd H (by simp)
              · rw [if_neg c24] at H
                have c24b0 : (t453 == 1) = false := beq_eq_false_iff_ne.mpr c24
                have c24b1 : (t453 != 1) = true := bne_iff_ne.mpr c24
                by_cases c35 : 0 ≤ t447
                · rw [if_pos c35] at H
                  have c35b0 := eq_true c35
                  have c35b1 : decide (0 ≤ t447) = true := decide_eq_true c35
                  clear c35
                  by_cases c36 : t447 ≤ (a1.size : Int)
                  · rw [if_pos c36] at H
                    have c36b0 := eq_true c36
                    have c36b1 : decide (t447 ≤ (a1.size : Int)) = true := decide_eq_true c36
                    clear c36
                    obtain ⟨ji37, hji37⟩ : ∃ j_ : Int, (wrap64 (t447 + 1)) = j_ := ⟨_, rfl⟩
                    replace H : (if 0 ≤ (ji37) then (if (ji37) ≤ (a1.size : Int) then (if (subs a1 0 (t447 : Int).toNat).size + (subs a1 ((ji37) : Int).toNat a1.size).size ≤ 9223372036854775807 then (some (cat (subs a1 0 (t447 : Int).toNat) (subs a1 ((ji37) : Int).toNat a1.size), t454, t455)) else (none)) else (none)) else (none)) = some (r1, r2, r3) := by first | (rw [hji37] at H; exact H) | (simp only [hji37] at H ⊢; exact H)
                    (try rw [hji37] at A7)
                    (try rw [hji37] at A8)
                    (try rw [hji37] at A13)
                    have hji37w : (IntKind.i64.wrap (t447 + 1)) = ji37 := (i64_w _).trans hji37
                    by_cases c38 : 0 ≤ (ji37)
                    · rw [if_pos c38] at H
                      have c38b0 := eq_true c38
                      have c38b1 : decide (0 ≤ (ji37)) = true := decide_eq_true c38
                      clear c38
                      by_cases c39 : (ji37) ≤ (a1.size : Int)
                      · rw [if_pos c39] at H
                        have c39b0 := eq_true c39
                        have c39b1 : decide ((ji37) ≤ (a1.size : Int)) = true := decide_eq_true c39
                        clear c39
                        by_cases c40 : (subs a1 0 (t447 : Int).toNat).size + (subs a1 ((ji37) : Int).toNat a1.size).size ≤ 9223372036854775807
                        · rw [if_pos c40] at H
                          have c40b0 := eq_true c40
                          have c40b1 : decide ((subs a1 0 (t447 : Int).toNat).size + (subs a1 ((ji37) : Int).toNat a1.size).size ≤ 9223372036854775807) = true := decide_eq_true c40
                          try have c40b2 : (9223372036854775807 < (subs a1 0 (t447 : Int).toNat).size + (subs a1 ((ji37) : Int).toNat a1.size).size) = False := eq_false (Nat.not_lt.2 c40)
                          clear c40
                          simp only [Option.some.injEq, Prod.mk.injEq] at H
                          obtain ⟨rfl, rfl, rfl⟩ := H
                          go_enter Tryd.func55, Tryd.ntmps55
                          go_wp2_with (first | (go_at_call 54; (with_reducible refine (spec_l1Cur_pick.calls g s0_0 s0_1 s0_2 (a1.size : Int) t447 t448 t449 w0 _ ?side1 ?side2 A7.out).mono ?_); (case side1 => repeat (first | (with_reducible first | exact HI0.out | apply IsS70.alloc | apply IsS70.drewN | apply IsS70.drew | apply IsS70.set_1 | apply IsS70.set_2) | exact HI0.out)); (case side2 => repeat (first | (with_reducible first | exact HB.out | apply below_alloc | apply pw_below_drewN | apply below_drew1 | refine below_set ?_ (IsS70.ge HI0.out)) | exact HB.out)); rintro e w41 ⟨rfl, hi, hb, hk⟩; have n0_ := Aside0.mk (KeepBut.trans (by repeat (first | (with_reducible first | exact HK.out | apply KeepBut.set_ | apply keep_drewN | apply keep_drew | apply keep_alloc) | exact HK.out)) hk (.inl rfl)); have n1_ := Aside0.mk (hb); have n2_ := Aside0.mk (hi); clear HK; clear HB; clear HI0; have HK := n0_; have HB := n1_; have HI0 := n2_; clear n0_ n1_ n2_; (try clear hb); (try clear hb2); (try clear hk); (try clear hi)) | (go_at_call 54; (with_reducible refine (spec_l1Cur_pick.calls g s0_0 t448 t449 (a2.size : Int) t450 t451 t452 w0 _ ?side1 ?side2 A8.out).mono ?_); (case side1 => repeat (first | (with_reducible first | exact HI0.out | apply IsS70.alloc | apply IsS70.drewN | apply IsS70.drew | apply IsS70.set_1 | apply IsS70.set_2) | exact HI0.out)); (case side2 => repeat (first | (with_reducible first | exact HB.out | apply below_alloc | apply pw_below_drewN | apply below_drew1 | refine below_set ?_ (IsS70.ge HI0.out)) | exact HB.out)); rintro e w42 ⟨rfl, hi, hb, hk⟩; have n0_ := Aside0.mk (KeepBut.trans (by repeat (first | (with_reducible first | exact HK.out | apply KeepBut.set_ | apply keep_drewN | apply keep_drew | apply keep_alloc) | exact HK.out)) hk (.inl rfl)); have n1_ := Aside0.mk (hb); have n2_ := Aside0.mk (hi); clear HK; clear HB; clear HI0; have HK := n0_; have HB := n1_; have HI0 := n2_; clear n0_ n1_ n2_; (try clear hb); (try clear hb2); (try clear hk); (try clear hi)) | (go_at_call 54; (with_reducible refine (spec_l1Cur_pick.calls g s0_0 t451 t452 3 t453 t454 t455 w0 _ ?side1 ?side2 A13.out).mono ?_); (case side1 => repeat (first | (with_reducible first | exact HI0.out | apply IsS70.alloc | apply IsS70.drewN | apply IsS70.drew | apply IsS70.set_1 | apply IsS70.set_2) | exact HI0.out)); (case side2 => repeat (first | (with_reducible first | exact HB.out | apply below_alloc | apply pw_below_drewN | apply below_drew1 | refine below_set ?_ (IsS70.ge HI0.out)) | exact HB.out)); rintro e w43 ⟨rfl, hi, hb, hk⟩; have n0_ := Aside0.mk (KeepBut.trans (by repeat (first | (with_reducible first | exact HK.out | apply KeepBut.set_ | apply keep_drewN | apply keep_drew | apply keep_alloc) | exact HK.out)) hk (.inl rfl)); have n1_ := Aside0.mk (hb); have n2_ := Aside0.mk (hi); clear HK; clear HB; clear HI0; have HK := n0_; have HB := n1_; have HI0 := n2_; clear n0_ n1_ n2_; (try clear hb); (try clear hb2); (try clear hk); (try clear hi)))
                          repeat (go_quiet (first | (go_at_call 54; (with_reducible refine (spec_l1Cur_pick.calls g s0_0 s0_1 s0_2 (a1.size : Int) t447 t448 t449 w0 _ ?side1 ?side2 A7.out).mono ?_); (case side1 => repeat (first | (with_reducible first | exact HI0.out | apply IsS70.alloc | apply IsS70.drewN | apply IsS70.drew | apply IsS70.set_1 | apply IsS70.set_2) | exact HI0.out)); (case side2 => repeat (first | (with_reducible first | exact HB.out | apply below_alloc | apply pw_below_drewN | apply below_drew1 | refine below_set ?_ (IsS70.ge HI0.out)) | exact HB.out)); rintro e w41 ⟨rfl, hi, hb, hk⟩; have n0_ := Aside0.mk (KeepBut.trans (by repeat (first | (with_reducible first | exact HK.out | apply KeepBut.set_ | apply keep_drewN | apply keep_drew | apply keep_alloc) | exact HK.out)) hk (.inl rfl)); have n1_ := Aside0.mk (hb); have n2_ := Aside0.mk (hi); clear HK; clear HB; clear HI0; have HK := n0_; have HB := n1_; have HI0 := n2_; clear n0_ n1_ n2_; (try clear hb); (try clear hb2); (try clear hk); (try clear hi)) | (go_at_call 54; (with_reducible refine (spec_l1Cur_pick.calls g s0_0 t448 t449 (a2.size : Int) t450 t451 t452 w0 _ ?side1 ?side2 A8.out).mono ?_); (case side1 => repeat (first | (with_reducible first | exact HI0.out | apply IsS70.alloc | apply IsS70.drewN | apply IsS70.drew | apply IsS70.set_1 | apply IsS70.set_2) | exact HI0.out)); (case side2 => repeat (first | (with_reducible first | exact HB.out | apply below_alloc | apply pw_below_drewN | apply below_drew1 | refine below_set ?_ (IsS70.ge HI0.out)) | exact HB.out)); rintro e w42 ⟨rfl, hi, hb, hk⟩; have n0_ := Aside0.mk (KeepBut.trans (by repeat (first | (with_reducible first | exact HK.out | apply KeepBut.set_ | apply keep_drewN | apply keep_drew | apply keep_alloc) | exact HK.out)) hk (.inl rfl)); have n1_ := Aside0.mk (hb); have n2_ := Aside0.mk (hi); clear HK; clear HB; clear HI0; have HK := n0_; have HB := n1_; have HI0 := n2_; clear n0_ n1_ n2_; (try clear hb); (try clear hb2); (try clear hk); (try clear hi)) | (go_at_call 54; (with_reducible refine (spec_l1Cur_pick.calls g s0_0 t451 t452 3 t453 t454 t455 w0 _ ?side1 ?side2 A13.out).mono ?_); (case side1 => repeat (first | (with_reducible first | exact HI0.out | apply IsS70.alloc | apply IsS70.drewN | apply IsS70.drew | apply IsS70.set_1 | apply IsS70.set_2) | exact HI0.out)); (case side2 => repeat (first | (with_reducible first | exact HB.out | apply below_alloc | apply pw_below_drewN | apply below_drew1 | refine below_set ?_ (IsS70.ge HI0.out)) | exact HB.out)); rintro e w43 ⟨rfl, hi, hb, hk⟩; have n0_ := Aside0.mk (KeepBut.trans (by repeat (first | (with_reducible first | exact HK.out | apply KeepBut.set_ | apply keep_drewN | apply keep_drew | apply keep_alloc) | exact HK.out)) hk (.inl rfl)); have n1_ := Aside0.mk (hb); have n2_ := Aside0.mk (hi); clear HK; clear HB; clear HI0; have HK := n0_; have HB := n1_; have HI0 := n2_; clear n0_ n1_ n2_; (try clear hb); (try clear hb2); (try clear hk); (try clear hi))); try go_wp2_with (first | (go_at_call 54; (with_reducible refine (spec_l1Cur_pick.calls g s0_0 s0_1 s0_2 (a1.size : Int) t447 t448 t449 w0 _ ?side1 ?side2 A7.out).mono ?_); (case side1 => repeat (first | (with_reducible first | exact HI0.out | apply IsS70.alloc | apply IsS70.drewN | apply IsS70.drew | apply IsS70.set_1 | apply IsS70.set_2) | exact HI0.out)); (case side2 => repeat (first | (with_reducible first | exact HB.out | apply below_alloc | apply pw_below_drewN | apply below_drew1 | refine below_set ?_ (IsS70.ge HI0.out)) | exact HB.out)); rintro e w41 ⟨rfl, hi, hb, hk⟩; have n0_ := Aside0.mk (KeepBut.trans (by repeat (first | (with_reducible first | exact HK.out | apply KeepBut.set_ | apply keep_drewN | apply keep_drew | apply keep_alloc) | exact HK.out)) hk (.inl rfl)); have n1_ := Aside0.mk (hb); have n2_ := Aside0.mk (hi); clear HK; clear HB; clear HI0; have HK := n0_; have HB := n1_; have HI0 := n2_; clear n0_ n1_ n2_; (try clear hb); (try clear hb2); (try clear hk); (try clear hi)) | (go_at_call 54; (with_reducible refine (spec_l1Cur_pick.calls g s0_0 t448 t449 (a2.size : Int) t450 t451 t452 w0 _ ?side1 ?side2 A8.out).mono ?_); (case side1 => repeat (first | (with_reducible first | exact HI0.out | apply IsS70.alloc | apply IsS70.drewN | apply IsS70.drew | apply IsS70.set_1 | apply IsS70.set_2) | exact HI0.out)); (case side2 => repeat (first | (with_reducible first | exact HB.out | apply below_alloc | apply pw_below_drewN | apply below_drew1 | refine below_set ?_ (IsS70.ge HI0.out)) | exact HB.out)); rintro e w42 ⟨rfl, hi, hb, hk⟩; have n0_ := Aside0.mk (KeepBut.trans (by repeat (first | (with_reducible first | exact HK.out | apply KeepBut.set_ | apply keep_drewN | apply keep_drew | apply keep_alloc) | exact HK.out)) hk (.inl rfl)); have n1_ := Aside0.mk (hb); have n2_ := Aside0.mk (hi); clear HK; clear HB; clear HI0; have HK := n0_; have HB := n1_; have HI0 := n2_; clear n0_ n1_ n2_; (try clear hb); (try clear hb2); (try clear hk); (try clear hi)) | (go_at_call 54; (with_reducible refine (spec_l1Cur_pick.calls g s0_0 t451 t452 3 t453 t454 t455 w0 _ ?side1 ?side2 A13.out).mono ?_); (case side1 => repeat (first | (with_reducible first | exact HI0.out | apply IsS70.alloc | apply IsS70.drewN | apply IsS70.drew | apply IsS70.set_1 | apply IsS70.set_2) | exact HI0.out)); (case side2 => repeat (first | (with_reducible first | exact HB.out | apply below_alloc | apply pw_below_drewN | apply below_drew1 | refine below_set ?_ (IsS70.ge HI0.out)) | exact HB.out)); rintro e w43 ⟨rfl, hi, hb, hk⟩; have n0_ := Aside0.mk (KeepBut.trans (by repeat (first | (with_reducible first | exact HK.out | apply KeepBut.set_ | apply keep_drewN | apply keep_drew | apply keep_alloc) | exact HK.out)) hk (.inl rfl)); have n1_ := Aside0.mk (hb); have n2_ := Aside0.mk (hi); clear HK; clear HB; clear HI0; have HK := n0_; have HB := n1_; have HI0 := n2_; clear n0_ n1_ n2_; (try clear hb); (try clear hb2); (try clear hk); (try clear hi))))
                          go_ret
                          exact ⟨by first | rfl | (simp [errW_none, errW_some] <;> rfl) | (simp only [← hji37]; first | rfl | (simp [errW_none, errW_some] <;> rfl)) | (simp [*, errW_none, errW_some] <;> rfl), by repeat (first | (with_reducible first | exact HI0.out | apply IsS70.alloc | apply IsS70.drewN | apply IsS70.drew | apply IsS70.set_1 | apply IsS70.set_2) | exact HI0.out), by repeat (first | (with_reducible first | exact HB.out | apply below_alloc | apply pw_below_drewN | apply below_drew1 | refine below_set ?_ (IsS70.ge HI0.out)) | exact HB.out), by repeat (first | (with_reducible first | exact HK.out | apply KeepBut.set_ | apply keep_drewN | apply keep_drew | apply keep_alloc) | exact HK.out)⟩
                        · rw [if_neg c40] at H
                          exact absurd H (by simp)
                      · rw [if_neg c39] at H
                        exact absurd H (by simp)
                    · rw [if_neg c38] at H
                      exact absurd H (by simp)
                  · rw [if_neg c36] at H
                    exact absurd H (by simp)
                · rw [if_neg c35] at H
                  exact absurd H (by simp)
          · rw [if_neg c12] at H
            exact absurd H (by simp)
        · rw [if_neg c11] at H
          exact absurd H (by simp)
      · rw [if_neg c10] at H
        exact absurd H (by simp)
    · rw [if_neg c9] at H
      exact absurd H (by simp)

end

section
attribute [local go_sem high] run_add_cat run_slice_cat run_slice_cat_h run_slice_cat_l run_slice_cat_all
/-! ### spec_DrawRecoverLog: function 33 -/
def spec_DrawRecoverLog.j0 : Nat → ByteArray → List Int → Int → Int → Option (ByteArray)
  | 0, _, _, _, _ => none
  | k + 1, x5, x457000, x457001, x457002 => (spec_l1Cur_one.f x457000 x457001 x457002 40).bind fun bt480 => (if bt480.1 = true then ((spec_l1Cur_pick.f x457000 bt480.2.1 bt480.2.2 2).bind fun bt483 => (if 0 ≤ (wrap64 (30000 + bt483.1)) then (if (wrap64 (30000 + bt483.1) : Int).toNat ≤ 281474976710656 then (some (strOfNums (List.replicate (wrap64 (30000 + bt483.1) : Int).toNat 0))) else (none)) else (none))) else (some x5))
def spec_DrawRecoverLog.f (k : Nat) (l0 : List Int) : Option (ByteArray) := (spec_l1Cur_log.f k l0 0 0).bind fun bt457 => (if bt457.1.size + bt457.2.1.size ≤ 9223372036854775807 then ((spec_l1Cur_pick.f l0 bt457.2.2.2.1 bt457.2.2.2.2 4).bind fun bt463 => (if bt463.1 = 0 then ((spec_l1Cur_spoilt.f l0 bt463.2.1 bt463.2.2 (cat bt457.1 bt457.2.1) (⟨#[35, 64, 10, 48, 49]⟩ : ByteArray)).bind fun bt466 => (spec_DrawRecoverLog.j0 k bt466.1 l0 bt466.2.1 bt466.2.2)) else (if bt463.1 = 1 then ((spec_l1Cur_pick.f l0 bt463.2.1 bt463.2.2 (wrap64 (((cat bt457.1 bt457.2.1).size : Int) + 1))).bind fun bt469 => (if 0 ≤ bt469.1 then (if bt469.1 ≤ ((cat bt457.1 bt457.2.1).size : Int) then (spec_DrawRecoverLog.j0 k (subs (cat bt457.1 bt457.2.1) 0 (bt469.1 : Int).toNat) l0 bt469.2.1 bt469.2.2) else (none)) else (none))) else (if bt463.1 = 2 then ((spec_l1Cur_pick.f l0 bt463.2.1 bt463.2.2 4).bind fun bt472 => ((spec_l1Cur_logRecord.f l0 bt472.2.1 bt472.2.2).bind fun bt475 => ((spec_l27Line.f k bt472.1 bt475.1 bt475.2.1).bind fun t479 => (if (cat bt457.1 bt457.2.1).size + t479.size ≤ 9223372036854775807 then (spec_DrawRecoverLog.j0 k (cat (cat bt457.1 bt457.2.1) t479) l0 bt475.2.2.1 bt475.2.2.2) else (none))))) else (spec_DrawRecoverLog.j0 k (cat bt457.1 bt457.2.1) l0 bt463.2.1 bt463.2.2))))) else (none))
set_option maxHeartbeats 8000000 in
set_option maxRecDepth 100000 in
theorem spec_DrawRecoverLog.calls (k : Nat) (A0 : Option Addr) (c0 : Nat) (l0 : List Int) (r : ByteArray) (w : World) (hr0 : Kd.C (Kd.int .u8) w A0 l0.length l0) (hc0 : l0.length ≤ c0) (h : spec_DrawRecoverLog.f k l0 = some r) :
    Calls Tryd.prog 33 #[.slice A0 l0.length c0] w fun e w' => e = .returned (.string r) ∧ Below w.heap.size w w' := by
  have hu70 := Tryd.underlying70
  have hu26 := Tryd.underlying26
  have HR0 := Aside0.mk hr0
  have HC0 := Aside0.mk hc0
  clear hr0 hc0
  have HB := Aside0.mk (Below.refl w.heap.size w)
  have H : ((spec_l1Cur_log.f k l0 0 0).bind fun bt457 => (if bt457.1.size + bt457.2.1.size ≤ 9223372036854775807 then ((spec_l1Cur_pick.f l0 bt457.2.2.2.1 bt457.2.2.2.2 4).bind fun bt463 => (if bt463.1 = 0 then ((spec_l1Cur_spoilt.f l0 bt463.2.1 bt463.2.2 (cat bt457.1 bt457.2.1) (⟨#[35, 64, 10, 48, 49]⟩ : ByteArray)).bind fun bt466 => (spec_DrawRecoverLog.j0 k bt466.1 l0 bt466.2.1 bt466.2.2)) else (if bt463.1 = 1 then ((spec_l1Cur_pick.f l0 bt463.2.1 bt463.2.2 (wrap64 (((cat bt457.1 bt457.2.1).size : Int) + 1))).bind fun bt469 => (if 0 ≤ bt469.1 then (if bt469.1 ≤ ((cat bt457.1 bt457.2.1).size : Int) then (spec_DrawRecoverLog.j0 k (subs (cat bt457.1 bt457.2.1) 0 (bt469.1 : Int).toNat) l0 bt469.2.1 bt469.2.2) else (none)) else (none))) else (if bt463.1 = 2 then ((spec_l1Cur_pick.f l0 bt463.2.1 bt463.2.2 4).bind fun bt472 => ((spec_l1Cur_logRecord.f l0 bt472.2.1 bt472.2.2).bind fun bt475 => ((spec_l27Line.f k bt472.1 bt475.1 bt475.2.1).bind fun t479 => (if (cat bt457.1 bt457.2.1).size + t479.size ≤ 9223372036854775807 then (spec_DrawRecoverLog.j0 k (cat (cat bt457.1 bt457.2.1) t479) l0 bt475.2.2.1 bt475.2.2.2) else (none))))) else (spec_DrawRecoverLog.j0 k (cat bt457.1 bt457.2.1) l0 bt463.2.1 bt463.2.2))))) else (none))) = some r := h
  clear h
  replace H := Option.bind_eq_some_iff.mp H
  obtain ⟨⟨t457, t458, t459, t460, t461⟩, A20, H⟩ := H
  replace H : (if t457.size + t458.size ≤ 9223372036854775807 then ((spec_l1Cur_pick.f l0 t460 t461 4).bind fun bt463 => (if bt463.1 = 0 then ((spec_l1Cur_spoilt.f l0 bt463.2.1 bt463.2.2 (cat t457 t458) (⟨#[35, 64, 10, 48, 49]⟩ : ByteArray)).bind fun bt466 => (spec_DrawRecoverLog.j0 k bt466.1 l0 bt466.2.1 bt466.2.2)) else (if bt463.1 = 1 then ((spec_l1Cur_pick.f l0 bt463.2.1 bt463.2.2 (wrap64 (((cat t457 t458).size : Int) + 1))).bind fun bt469 => (if 0 ≤ bt469.1 then (if bt469.1 ≤ ((cat t457 t458).size : Int) then (spec_DrawRecoverLog.j0 k (subs (cat t457 t458) 0 (bt469.1 : Int).toNat) l0 bt469.2.1 bt469.2.2) else (none)) else (none))) else (if bt463.1 = 2 then ((spec_l1Cur_pick.f l0 bt463.2.1 bt463.2.2 4).bind fun bt472 => ((spec_l1Cur_logRecord.f l0 bt472.2.1 bt472.2.2).bind fun bt475 => ((spec_l27Line.f k bt472.1 bt475.1 bt475.2.1).bind fun t479 => (if (cat t457 t458).size + t479.size ≤ 9223372036854775807 then (spec_DrawRecoverLog.j0 k (cat (cat t457 t458) t479) l0 bt475.2.2.1 bt475.2.2.2) else (none))))) else (spec_DrawRecoverLog.j0 k (cat t457 t458) l0 bt463.2.1 bt463.2.2))))) else (none)) = some r := H
  have A2 := Aside0.mk A20
  clear A20
  by_cases c3 : t457.size + t458.size ≤ 9223372036854775807
  · rw [if_pos c3] at H
    have c3b0 := eq_true c3
    have c3b1 : decide (t457.size + t458.size ≤ 9223372036854775807) = true := decide_eq_true c3
    try have c3b2 : (9223372036854775807 < t457.size + t458.size) = False := eq_false (Nat.not_lt.2 c3)
    clear c3
    replace H := Option.bind_eq_some_iff.mp H
    obtain ⟨⟨t463, t464, t465⟩, A40, H⟩ := H
    replace H : (if t463 = 0 then ((spec_l1Cur_spoilt.f l0 t464 t465 (cat t457 t458) (⟨#[35, 64, 10, 48, 49]⟩ : ByteArray)).bind fun bt466 => (spec_DrawRecoverLog.j0 k bt466.1 l0 bt466.2.1 bt466.2.2)) else (if t463 = 1 then ((spec_l1Cur_pick.f l0 t464 t465 (wrap64 (((cat t457 t458).size : Int) + 1))).bind fun bt469 => (if 0 ≤ bt469.1 then (if bt469.1 ≤ ((cat t457 t458).size : Int) then (spec_DrawRecoverLog.j0 k (subs (cat t457 t458) 0 (bt469.1 : Int).toNat) l0 bt469.2.1 bt469.2.2) else (none)) else (none))) else (if t463 = 2 then ((spec_l1Cur_pick.f l0 t464 t465 4).bind fun bt472 => ((spec_l1Cur_logRecord.f l0 bt472.2.1 bt472.2.2).bind fun bt475 => ((spec_l27Line.f k bt472.1 bt475.1 bt475.2.1).bind fun t479 => (if (cat t457 t458).size + t479.size ≤ 9223372036854775807 then (spec_DrawRecoverLog.j0 k (cat (cat t457 t458) t479) l0 bt475.2.2.1 bt475.2.2.2) else (none))))) else (spec_DrawRecoverLog.j0 k (cat t457 t458) l0 t464 t465)))) = some r := H
    have A4 := Aside0.mk A40
    clear A40
    have HC5 := Aside0.mk H
    clear H
    go_enter Tryd.func33, Tryd.ntmps33
    go_upto_block 0 with (first | ((with_reducible refine gate_dst (N := 8) rfl ?_); refine box_event ?hg (N := 8) ?hd (cs := #[.slice A0 l0.length c0, .int .i64 0, .int .u64 0]) (t := 70) ?hr ?_; (case hd => rfl); (case hg => rfl); (case hr => first | (go_simp; done) | (go_simp; rfl)); intro gb456 hg w6 hbox hb; have n0_ := Aside0.mk (below_step (by repeat (first | (with_reducible first | exact HB.out | apply below_alloc | apply pw_below_drewN | apply below_drew1) | exact HB.out)) hb); have n1_ := Aside0.mk ((show IsS70 w w6 gb456 l0 0 0 from ⟨A0, c0, hbox, (by rw [hg]; exact (below_size (by repeat (first | (with_reducible first | exact HB.out | apply below_alloc | apply pw_below_drewN | apply below_drew1) | exact HB.out)))), HR0.out⟩)); have n2_ := Aside0.mk ((by rw [hg]; exact (below_size (by repeat (first | (with_reducible first | exact HB.out | apply below_alloc | apply pw_below_drewN | apply below_drew1) | exact HB.out))) : w.heap.size ≤ gb456)); have n3_ := Aside0.mk ((by rw [hg]; exact (below_size (by repeat (first | (with_reducible first | exact HB.out | apply below_alloc | apply pw_below_drewN | apply below_drew1) | exact HB.out))) : w.heap.size ≤ gb456)); clear HB; have HB := n0_; have HI456 := n1_; have GW456 := n2_; have GE456 := n3_; clear n0_ n1_ n2_ n3_; clear hb hbox hg) | ((with_reducible refine gate_callee (f := 53) rfl ?_); refine goesL_ (some 10) rfl rfl Tryd.func53 (by kernel_rfl) rfl #[.pointer (some ⟨gb456, 0, none⟩)] rfl (by (try simp only [List.map_toArray, List.map_cons, List.map_nil]); first | done | rfl | (simp only [List.length_drop, List.length_take]; rfl)) ?_; (with_reducible refine (spec_l1Cur_log.calls k gb456 l0 0 0 t457 t458 t459 t460 t461 w _ ?side1 ?side2 A2.out).mono ?_); (case side1 => repeat (first | (with_reducible first | exact HI456.out | apply IsS70.alloc | apply IsS70.drewN | apply IsS70.drew | apply IsS70.set_1 | apply IsS70.set_2) | exact HI456.out)); (case side2 => repeat (first | (with_reducible first | exact HB.out | apply below_alloc | apply pw_below_drewN | apply below_drew1 | refine below_set ?_ (IsS70.ge HI456.out)) | exact HB.out)); rintro e w7 ⟨rfl, hi, hb, hk⟩; refine ⟨_, rfl, ?_⟩; have n0_ := Aside0.mk (hb); have n1_ := Aside0.mk (hi); clear HB; clear HI456; have HB := n0_; have HI456 := n1_; clear n0_ n1_; (try clear hb); (try clear hb2); (try clear hk); (try clear hi)) | ((with_reducible refine gate_dst (N := 4) rfl ?_); refine box_event ?hg (N := 4) ?hd (cs := #[.string (⟨#[]⟩ : ByteArray), .string (⟨#[]⟩ : ByteArray), .int .i64 0]) (t := 26) ?hr ?_; (case hd => rfl); (case hg => rfl); (case hr => first | (go_simp; done) | (go_simp; rfl)); intro gb462 hg w8 hbox hb; have n0_ := Aside0.mk (IsS70.below (by repeat (first | (with_reducible first | exact HI456.out | apply IsS70.alloc | apply IsS70.drewN | apply IsS70.drew | apply IsS70.set_1 | apply IsS70.set_2) | exact HI456.out)) hb); have n1_ := Aside0.mk (below_step (by repeat (first | (with_reducible first | exact HB.out | apply below_alloc | apply pw_below_drewN | apply below_drew1 | refine below_set ?_ (IsS70.ge HI456.out)) | exact HB.out)) hb); have n2_ := Aside0.mk (hbox); have n3_ := Aside0.mk ((by rw [hg]; exact (below_size (by repeat (first | (with_reducible first | exact HB.out | apply below_alloc | apply pw_below_drewN | apply below_drew1 | refine below_set ?_ (IsS70.ge HI456.out)) | exact HB.out))) : w.heap.size ≤ gb462)); have n4_ := Aside0.mk ((by rw [hg]; exact (below_size (by repeat (first | (with_reducible first | exact HB.out | apply below_alloc | apply pw_below_drewN | apply below_drew1 | refine below_set ?_ (IsS70.ge HI456.out)) | exact HB.out))) : w.heap.size ≤ gb462)); have n5_ := Aside0.mk ((by rw [hg]; exact Nat.ne_of_lt (IsS70.lt (show IsS70 w _ gb456 l0 t460 t461 from by repeat (first | (with_reducible first | exact HI456.out | apply IsS70.alloc | apply IsS70.drewN | apply IsS70.drew | apply IsS70.set_1 | apply IsS70.set_2) | exact HI456.out))) : gb456 ≠ gb462)); have n6_ := Aside0.mk ((by rw [hg]; exact Nat.ne_of_gt (IsS70.lt (show IsS70 w _ gb456 l0 t460 t461 from by repeat (first | (with_reducible first | exact HI456.out | apply IsS70.alloc | apply IsS70.drewN | apply IsS70.drew | apply IsS70.set_1 | apply IsS70.set_2) | exact HI456.out))) : gb462 ≠ gb456)); clear HI456; clear HB; have HI456 := n0_; have HB := n1_; have BK462 := n2_; have GW462 := n3_; have GE462 := n4_; have NB456_462 := n5_; have NB462_456 := n6_; clear n0_ n1_ n2_ n3_ n4_ n5_ n6_; clear hb hbox hg; have hnb9 := NB462_456.out; have hnc9 := NB456_462.out; have hcz10_0 : w8.cell? ⟨gb462, 0, none⟩ = some (.string (⟨#[]⟩ : ByteArray)) := (blk_cell BK462.out 0).trans rfl; have hcz10_1 : w8.cell? ⟨gb462, 1, none⟩ = some (.string (⟨#[]⟩ : ByteArray)) := (blk_cell BK462.out 1).trans rfl; have hcz10_2 : w8.cell? ⟨gb462, 2, none⟩ = some (.int .i64 0) := (blk_cell BK462.out 2).trans rfl; have hfz10_0 := blk_frozen BK462.out 0; have hfz10_1 := blk_frozen BK462.out 1; have hfz10_2 := blk_frozen BK462.out 2) | ((with_reducible refine gate_callee (f := 54) rfl ?_); refine goesL_ (some 17) rfl rfl Tryd.func54 (by kernel_rfl) rfl #[.pointer (some ⟨gb456, 0, none⟩), .int .i64 4] rfl (by (try simp only [List.map_toArray, List.map_cons, List.map_nil]); first | done | rfl | (simp only [List.length_drop, List.length_take]; rfl)) ?_; (with_reducible refine (spec_l1Cur_pick.calls gb456 l0 t460 t461 4 t463 t464 t465 w _ ?side1 ?side2 A4.out).mono ?_); (case side1 => repeat (first | (with_reducible first | exact HI456.out | apply IsS70.alloc | apply IsS70.drewN | apply IsS70.drew | apply IsS70.set_1 | apply IsS70.set_2 | refine IsS70.far ?_ NB456_462.out _) | exact HI456.out)); (case side2 => repeat (first | (with_reducible first | exact HB.out | apply below_alloc | apply pw_below_drewN | apply below_drew1 | refine below_set ?_ (IsS70.ge HI456.out) | refine below_set ?_ GE462.out) | exact HB.out)); rintro e w11 ⟨rfl, hi, hb, hk⟩; refine ⟨_, rfl, ?_⟩; have n0_ := Aside0.mk (KeepBut.blk hk (g' := gb462) (o := .cells #[.string t457, .string t458, .int .i64 t459] 26 (0, 0)) (by (with_reducible repeat (first | refine blk_drewN ?_ _ | refine blk_drew ?_ | refine blk_alloc ?_ _)); refine blk_put (cs := #[.string t457, .string t458, .int .i64 0]) ?_ 2 _ rfl; (with_reducible repeat (first | refine blk_drewN ?_ _ | refine blk_drew ?_ | refine blk_alloc ?_ _)); refine blk_put (cs := #[.string t457, .string (⟨#[]⟩ : ByteArray), .int .i64 0]) ?_ 1 _ rfl; (with_reducible repeat (first | refine blk_drewN ?_ _ | refine blk_drew ?_ | refine blk_alloc ?_ _)); refine blk_put (cs := #[.string (⟨#[]⟩ : ByteArray), .string (⟨#[]⟩ : ByteArray), .int .i64 0]) ?_ 0 _ rfl; (with_reducible repeat (first | refine blk_drewN ?_ _ | refine blk_drew ?_ | refine blk_alloc ?_ _)); exact BK462.out) NB462_456.out (by simp)); have n1_ := Aside0.mk (hb); have n2_ := Aside0.mk (hi); clear BK462; clear HB; clear HI456; have BK462 := n0_; have HB := n1_; have HI456 := n2_; clear n0_ n1_ n2_; (try clear hb); (try clear hb2); (try clear hk); (try clear hi)))
    (try simp only [Act.put, List.setIfInBounds_toArray, List.set_cons_zero, List.set_cons_succ])
    go_cut [5] (fun v5 wc => ∃ (kq : Nat) (x5_4 : ByteArray) (x457001_4 : Int) (x457002_4 : Int), v5 = .string x5_4 ∧ Aside0 (spec_DrawRecoverLog.j0 kq x5_4 l0 x457001_4 x457002_4 = some r) ∧ Aside0 (kq ≤ k) ∧ Aside0 (wc.heap[gb462]? = some (.cells #[.string t457, .string t458, .int .i64 t459] 26 (0, 0))) ∧ Aside0 (IsS70 w wc gb456 l0 x457001_4 x457002_4) ∧ Aside0 (Below w.heap.size w wc))
    case first =>
      have H := HC5.out
      clear HC5
      by_cases c12 : t463 = 0
      · rw [if_pos c12] at H
        have c12b0 : (t463 == 0) = true := beq_iff_eq.mpr c12
        have c12b1 : (t463 != 0) = false := bne_eq_false_iff_eq.mpr c12
        clear c12
        (first | rw [c12b0] | (simp only [i64_w, i32_w]; rw [c12b0]) | skip)
        replace H := Option.bind_eq_some_iff.mp H
        obtain ⟨⟨t466, t467, t468⟩, A130, H⟩ := H
        replace H : (spec_DrawRecoverLog.j0 k t466 l0 t467 t468) = some r := H
        have A13 := Aside0.mk A130
        clear A130
        have H' := Aside0.mk H
        clear H
        go_wp2_with (first | ((with_reducible refine gate_callee (f := 55) rfl ?_); refine goesL_ (some 22) rfl rfl Tryd.func55 (by kernel_rfl) rfl #[.pointer (some ⟨gb456, 0, none⟩), .string (cat t457 t458), .string (⟨#[35, 64, 10, 48, 49]⟩ : ByteArray)] rfl (by (try simp only [List.map_toArray, List.map_cons, List.map_nil]); first | done | rfl | (simp only [List.length_drop, List.length_take]; rfl)) ?_; (with_reducible refine (spec_l1Cur_spoilt.calls gb456 l0 t464 t465 (cat t457 t458) (⟨#[35, 64, 10, 48, 49]⟩ : ByteArray) t466 t467 t468 w _ ?side1 ?side2 A13.out).mono ?_); (case side1 => repeat (first | (with_reducible first | exact HI456.out | apply IsS70.alloc | apply IsS70.drewN | apply IsS70.drew | apply IsS70.set_1 | apply IsS70.set_2 | refine IsS70.far ?_ NB456_462.out _) | exact HI456.out)); (case side2 => repeat (first | (with_reducible first | exact HB.out | apply below_alloc | apply pw_below_drewN | apply below_drew1 | refine below_set ?_ (IsS70.ge HI456.out) | refine below_set ?_ GE462.out) | exact HB.out)); rintro e w14 ⟨rfl, hi, hb, hk⟩; refine ⟨_, rfl, ?_⟩; have n0_ := Aside0.mk (KeepBut.blk hk (g' := gb462) (o := .cells #[.string t457, .string t458, .int .i64 t459] 26 (0, 0)) (by (with_reducible repeat (first | refine blk_drewN ?_ _ | refine blk_drew ?_ | refine blk_alloc ?_ _)); exact BK462.out) NB462_456.out (by simp)); have n1_ := Aside0.mk (hb); have n2_ := Aside0.mk (hi); clear BK462; clear HB; clear HI456; have BK462 := n0_; have HB := n1_; have HI456 := n2_; clear n0_ n1_ n2_; (try clear hb); (try clear hb2); (try clear hk); (try clear hi)))
        go_meet
        case rel => exact ⟨_, (t466), (t467), (t468), (by first | rfl | (simp; done) | (simp [*]; done)), H', ⟨by first | omega | exact Nat.le_refl _⟩, ⟨by (with_reducible repeat (first | refine blk_drewN ?_ _ | refine blk_drew ?_ | refine blk_alloc ?_ _)); exact BK462.out⟩, ⟨by repeat (first | (with_reducible first | exact HI456.out | apply IsS70.alloc | apply IsS70.drewN | apply IsS70.drew | apply IsS70.set_1 | apply IsS70.set_2 | refine IsS70.far ?_ NB456_462.out _) | exact HI456.out)⟩, ⟨by repeat (first | (with_reducible first | exact HB.out | apply below_alloc | apply pw_below_drewN | apply below_drew1 | refine below_set ?_ (IsS70.ge HI456.out) | refine below_set ?_ GE462.out) | exact HB.out)⟩⟩
      · rw [if_neg c12] at H
        have c12b0 : (t463 == 0) = false := beq_eq_false_iff_ne.mpr c12
        have c12b1 : (t463 != 0) = true := bne_iff_ne.mpr c12
        (first | rw [c12b0] | (simp only [i64_w, i32_w]; rw [c12b0]) | skip)
        by_cases c15 : t463 = 1
        · rw [if_pos c15] at H
          have c15b0 : (t463 == 1) = true := beq_iff_eq.mpr c15
          have c15b1 : (t463 != 1) = false := bne_eq_false_iff_eq.mpr c15
          clear c15
          replace H := Option.bind_eq_some_iff.mp H
          obtain ⟨⟨t469, t470, t471⟩, A160, H⟩ := H
          replace H : (if 0 ≤ t469 then (if t469 ≤ ((cat t457 t458).size : Int) then (spec_DrawRecoverLog.j0 k (subs (cat t457 t458) 0 (t469 : Int).toNat) l0 t470 t471) else (none)) else (none)) = some r := H
          have A16 := Aside0.mk A160
          clear A160
          by_cases c17 : 0 ≤ t469
          · rw [if_pos c17] at H
            have c17b0 := eq_true c17
            have c17b1 : decide (0 ≤ t469) = true := decide_eq_true c17
            clear c17
            by_cases c18 : t469 ≤ ((cat t457 t458).size : Int)
            · rw [if_pos c18] at H
              have c18b0 := eq_true c18
              have c18b1 : decide (t469 ≤ ((cat t457 t458).size : Int)) = true := decide_eq_true c18
              clear c18
              have H' := Aside0.mk H
              clear H
              go_wp2_with (first | ((with_reducible refine gate_callee (f := 54) rfl ?_); refine goesL_ (some 30) rfl rfl Tryd.func54 (by kernel_rfl) rfl #[.pointer (some ⟨gb456, 0, none⟩), .int .i64 (wrap64 (((cat t457 t458).size : Int) + 1))] rfl (by (try simp only [List.map_toArray, List.map_cons, List.map_nil]); first | done | rfl | (simp only [List.length_drop, List.length_take]; rfl)) ?_; (with_reducible refine (spec_l1Cur_pick.calls gb456 l0 t464 t465 (wrap64 (((cat t457 t458).size : Int) + 1)) t469 t470 t471 w _ ?side1 ?side2 A16.out).mono ?_); (case side1 => repeat (first | (with_reducible first | exact HI456.out | apply IsS70.alloc | apply IsS70.drewN | apply IsS70.drew | apply IsS70.set_1 | apply IsS70.set_2 | refine IsS70.far ?_ NB456_462.out _) | exact HI456.out)); (case side2 => repeat (first | (with_reducible first | exact HB.out | apply below_alloc | apply pw_below_drewN | apply below_drew1 | refine below_set ?_ (IsS70.ge HI456.out) | refine below_set ?_ GE462.out) | exact HB.out)); rintro e w19 ⟨rfl, hi, hb, hk⟩; refine ⟨_, rfl, ?_⟩; have n0_ := Aside0.mk (KeepBut.blk hk (g' := gb462) (o := .cells #[.string t457, .string t458, .int .i64 t459] 26 (0, 0)) (by (with_reducible repeat (first | refine blk_drewN ?_ _ | refine blk_drew ?_ | refine blk_alloc ?_ _)); exact BK462.out) NB462_456.out (by simp)); have n1_ := Aside0.mk (hb); have n2_ := Aside0.mk (hi); clear BK462; clear HB; clear HI456; have BK462 := n0_; have HB := n1_; have HI456 := n2_; clear n0_ n1_ n2_; (try clear hb); (try clear hb2); (try clear hk); (try clear hi)))
              go_meet
              case rel => exact ⟨_, (subs (cat t457 t458) 0 (t469 : Int).toNat), (t470), (t471), (by first | rfl | (simp; done) | (simp [*]; done)), H', ⟨by first | omega | exact Nat.le_refl _⟩, ⟨by (with_reducible repeat (first | refine blk_drewN ?_ _ | refine blk_drew ?_ | refine blk_alloc ?_ _)); exact BK462.out⟩, ⟨by repeat (first | (with_reducible first | exact HI456.out | apply IsS70.alloc | apply IsS70.drewN | apply IsS70.drew | apply IsS70.set_1 | apply IsS70.set_2 | refine IsS70.far ?_ NB456_462.out _) | exact HI456.out)⟩, ⟨by repeat (first | (with_reducible first | exact HB.out | apply below_alloc | apply pw_below_drewN | apply below_drew1 | refine below_set ?_ (IsS70.ge HI456.out) | refine below_set ?_ GE462.out) | exact HB.out)⟩⟩
            · rw [if_neg c18] at H
              exact absurd H (by simp)
          · rw [if_neg c17] at H
            exact absurd H (by simp)
        · rw [if_neg c15] at H
          have c15b0 : (t463 == 1) = false := beq_eq_false_iff_ne.mpr c15
          have c15b1 : (t463 != 1) = true := bne_iff_ne.mpr c15
          by_cases c20 : t463 = 2
          · rw [if_pos c20] at H
            have c20b0 : (t463 == 2) = true := beq_iff_eq.mpr c20
            have c20b1 : (t463 != 2) = false := bne_eq_false_iff_eq.mpr c20
            clear c20
            replace H := Option.bind_eq_some_iff.mp H
            obtain ⟨⟨t472, t473, t474⟩, A210, H⟩ := H
            replace H : ((spec_l1Cur_logRecord.f l0 t473 t474).bind fun bt475 => ((spec_l27Line.f k t472 bt475.1 bt475.2.1).bind fun t479 => (if (cat t457 t458).size + t479.size ≤ 9223372036854775807 then (spec_DrawRecoverLog.j0 k (cat (cat t457 t458) t479) l0 bt475.2.2.1 bt475.2.2.2) else (none)))) = some r := H
            have A21 := Aside0.mk A210
            clear A210
            replace H := Option.bind_eq_some_iff.mp H
            obtain ⟨⟨t475, t476, t477, t478⟩, A220, H⟩ := H
            replace H : ((spec_l27Line.f k t472 t475 t476).bind fun t479 => (if (cat t457 t458).size + t479.size ≤ 9223372036854775807 then (spec_DrawRecoverLog.j0 k (cat (cat t457 t458) t479) l0 t477 t478) else (none))) = some r := H
            have A22 := Aside0.mk A220
            clear A220
            replace H := Option.bind_eq_some_iff.mp H
            obtain ⟨t479, A230, H⟩ := H
            replace H : (if (cat t457 t458).size + t479.size ≤ 9223372036854775807 then (spec_DrawRecoverLog.j0 k (cat (cat t457 t458) t479) l0 t477 t478) else (none)) = some r := H
            have A23 := Aside0.mk A230
            clear A230
            by_cases c24 : (cat t457 t458).size + t479.size ≤ 9223372036854775807
            · rw [if_pos c24] at H
              have c24b0 := eq_true c24
              have c24b1 : decide ((cat t457 t458).size + t479.size ≤ 9223372036854775807) = true := decide_eq_true c24
              try have c24b2 : (9223372036854775807 < (cat t457 t458).size + t479.size) = False := eq_false (Nat.not_lt.2 c24)
              clear c24
              have H' := Aside0.mk H
              clear H
              go_wp2_with (first | ((with_reducible refine gate_callee (f := 54) rfl ?_); refine goesL_ (some 36) rfl rfl Tryd.func54 (by kernel_rfl) rfl #[.pointer (some ⟨gb456, 0, none⟩), .int .i64 4] rfl (by (try simp only [List.map_toArray, List.map_cons, List.map_nil]); first | done | rfl | (simp only [List.length_drop, List.length_take]; rfl)) ?_; (with_reducible refine (spec_l1Cur_pick.calls gb456 l0 t464 t465 4 t472 t473 t474 w _ ?side1 ?side2 A21.out).mono ?_); (case side1 => repeat (first | (with_reducible first | exact HI456.out | apply IsS70.alloc | apply IsS70.drewN | apply IsS70.drew | apply IsS70.set_1 | apply IsS70.set_2 | refine IsS70.far ?_ NB456_462.out _) | exact HI456.out)); (case side2 => repeat (first | (with_reducible first | exact HB.out | apply below_alloc | apply pw_below_drewN | apply below_drew1 | refine below_set ?_ (IsS70.ge HI456.out) | refine below_set ?_ GE462.out) | exact HB.out)); rintro e w25 ⟨rfl, hi, hb, hk⟩; refine ⟨_, rfl, ?_⟩; have n0_ := Aside0.mk (KeepBut.blk hk (g' := gb462) (o := .cells #[.string t457, .string t458, .int .i64 t459] 26 (0, 0)) (by (with_reducible repeat (first | refine blk_drewN ?_ _ | refine blk_drew ?_ | refine blk_alloc ?_ _)); exact BK462.out) NB462_456.out (by simp)); have n1_ := Aside0.mk (hb); have n2_ := Aside0.mk (hi); clear BK462; clear HB; clear HI456; have BK462 := n0_; have HB := n1_; have HI456 := n2_; clear n0_ n1_ n2_; (try clear hb); (try clear hb2); (try clear hk); (try clear hi)) | ((with_reducible refine gate_callee (f := 50) rfl ?_); refine goesL_ (some 38) rfl rfl Tryd.func50 (by kernel_rfl) rfl #[.pointer (some ⟨gb456, 0, none⟩)] rfl (by (try simp only [List.map_toArray, List.map_cons, List.map_nil]); first | done | rfl | (simp only [List.length_drop, List.length_take]; rfl)) ?_; (with_reducible refine (spec_l1Cur_logRecord.calls gb456 l0 t473 t474 t475 t476 t477 t478 w _ ?side1 ?side2 A22.out).mono ?_); (case side1 => repeat (first | (with_reducible first | exact HI456.out | apply IsS70.alloc | apply IsS70.drewN | apply IsS70.drew | apply IsS70.set_1 | apply IsS70.set_2 | refine IsS70.far ?_ NB456_462.out _) | exact HI456.out)); (case side2 => repeat (first | (with_reducible first | exact HB.out | apply below_alloc | apply pw_below_drewN | apply below_drew1 | refine below_set ?_ (IsS70.ge HI456.out) | refine below_set ?_ GE462.out) | exact HB.out)); rintro e w26 ⟨rfl, hi, hb, hk⟩; refine ⟨_, rfl, ?_⟩; have n0_ := Aside0.mk (KeepBut.blk hk (g' := gb462) (o := .cells #[.string t457, .string t458, .int .i64 t459] 26 (0, 0)) (by (with_reducible repeat (first | refine blk_drewN ?_ _ | refine blk_drew ?_ | refine blk_alloc ?_ _)); exact BK462.out) NB462_456.out (by simp)); have n1_ := Aside0.mk (hb); have n2_ := Aside0.mk (hi); clear BK462; clear HB; clear HI456; have BK462 := n0_; have HB := n1_; have HI456 := n2_; clear n0_ n1_ n2_; (try clear hb); (try clear hb2); (try clear hk); (try clear hi)) | ((with_reducible refine gate_callee (f := 45) rfl ?_); refine goesL_ (some 39) rfl rfl Tryd.func45 (by kernel_rfl) rfl #[.int .i64 t472, .agg #[.string t475, .string t476]] rfl (by (try simp only [List.map_toArray, List.map_cons, List.map_nil]); first | done | rfl | (simp only [List.length_drop, List.length_take]; rfl)) ?_; (with_reducible refine (spec_l27Line.calls k t472 t475 t476 t479 _ A23.out).mono ?_); rintro e w27 ⟨rfl, hb⟩; refine ⟨_, rfl, ?_⟩; have n0_ := Aside0.mk (IsS70.below (by repeat (first | (with_reducible first | exact HI456.out | apply IsS70.alloc | apply IsS70.drewN | apply IsS70.drew | apply IsS70.set_1 | apply IsS70.set_2 | refine IsS70.far ?_ NB456_462.out _) | exact HI456.out)) hb); have n1_ := Aside0.mk (blk_below (g := gb462) (o := .cells #[.string t457, .string t458, .int .i64 t459] 26 (0, 0)) (by (with_reducible repeat (first | refine blk_drewN ?_ _ | refine blk_drew ?_ | refine blk_alloc ?_ _)); exact BK462.out) hb); have n2_ := Aside0.mk (below_step (by repeat (first | (with_reducible first | exact HB.out | apply below_alloc | apply pw_below_drewN | apply below_drew1 | refine below_set ?_ (IsS70.ge HI456.out) | refine below_set ?_ GE462.out) | exact HB.out)) hb); clear HI456; clear BK462; clear HB; have HI456 := n0_; have BK462 := n1_; have HB := n2_; clear n0_ n1_ n2_; (try clear hb); (try clear hb2); (try clear hk); (try clear hi)))
              go_meet
              case rel => exact ⟨_, (cat (cat t457 t458) t479), (t477), (t478), (by first | rfl | (simp; done) | (simp [*]; done)), H', ⟨by first | omega | exact Nat.le_refl _⟩, ⟨by (with_reducible repeat (first | refine blk_drewN ?_ _ | refine blk_drew ?_ | refine blk_alloc ?_ _)); exact BK462.out⟩, ⟨by repeat (first | (with_reducible first | exact HI456.out | apply IsS70.alloc | apply IsS70.drewN | apply IsS70.drew | apply IsS70.set_1 | apply IsS70.set_2 | refine IsS70.far ?_ NB456_462.out _) | exact HI456.out)⟩, ⟨by repeat (first | (with_reducible first | exact HB.out | apply below_alloc | apply pw_below_drewN | apply below_drew1 | refine below_set ?_ (IsS70.ge HI456.out) | refine below_set ?_ GE462.out) | exact HB.out)⟩⟩
            · rw [if_neg c24] at H
              exact absurd H (by simp)
          · rw [if_neg c20] at H
            have c20b0 : (t463 == 2) = false := beq_eq_false_iff_ne.mpr c20
            have c20b1 : (t463 != 2) = true := bne_iff_ne.mpr c20
            have H' := Aside0.mk H
            clear H
            go_wp2
            go_meet
            case rel => exact ⟨_, (cat t457 t458), (t464), (t465), (by first | rfl | (simp; done) | (simp [*]; done)), H', ⟨by first | omega | exact Nat.le_refl _⟩, ⟨by (with_reducible repeat (first | refine blk_drewN ?_ _ | refine blk_drew ?_ | refine blk_alloc ?_ _)); exact BK462.out⟩, ⟨by repeat (first | (with_reducible first | exact HI456.out | apply IsS70.alloc | apply IsS70.drewN | apply IsS70.drew | apply IsS70.set_1 | apply IsS70.set_2 | refine IsS70.far ?_ NB456_462.out _) | exact HI456.out)⟩, ⟨by repeat (first | (with_reducible first | exact HB.out | apply below_alloc | apply pw_below_drewN | apply below_drew1 | refine below_set ?_ (IsS70.ge HI456.out) | refine below_set ?_ GE462.out) | exact HB.out)⟩⟩
    case rest =>
      clear HC5
      try clear c1
      try clear c2
      try clear p2
      try clear c3
      try clear c3b0
      try clear c3b1
      try clear c3b2
      try clear c4
      try clear c5
      try clear p6
      try clear c9
      try clear c12
      try clear c12b0
      try clear c12b1
      try clear c15
      try clear c15b0
      try clear c15b1
      try clear c17
      try clear c17b0
      try clear c17b1
      try clear c18
      try clear c18b0
      try clear c18b1
      try clear c20
      try clear c20b0
      try clear c20b1
      try clear c24
      try clear c24b0
      try clear c24b1
      try clear c24b2
      try clear hcz10_0
      try clear hcz10_1
      try clear hcz10_2
      try clear hfz10_0
      try clear hfz10_1
      try clear hfz10_2
      obtain ⟨kq, x5_4, x457001_4, x457002_4, rfl, HA, HJ4, BK462, HI456, HB⟩ := hcut
      cases kq with
      | zero => exact absurd HA.out (by simp [spec_DrawRecoverLog.j0])
      | succ kj4 =>
        have H := HA.out
        clear HA
        simp only [spec_DrawRecoverLog.j0] at H
        replace H := Option.bind_eq_some_iff.mp H
        obtain ⟨⟨t480, t481, t482⟩, A280, H⟩ := H
        replace H : (if t480 = true then ((spec_l1Cur_pick.f l0 t481 t482 2).bind fun bt483 => (if 0 ≤ (wrap64 (30000 + bt483.1)) then (if (wrap64 (30000 + bt483.1) : Int).toNat ≤ 281474976710656 then (some (strOfNums (List.replicate (wrap64 (30000 + bt483.1) : Int).toNat 0))) else (none)) else (none))) else (some x5_4)) = some r := H
        have A28 := Aside0.mk A280
        clear A280
        by_cases c29 : t480 = true
        · subst c29
          have H1 : ((spec_l1Cur_pick.f l0 t481 t482 2).bind fun bt483 => (if 0 ≤ (wrap64 (30000 + bt483.1)) then (if (wrap64 (30000 + bt483.1) : Int).toNat ≤ 281474976710656 then (some (strOfNums (List.replicate (wrap64 (30000 + bt483.1) : Int).toNat 0))) else (none)) else (none))) = some r := by rw [if_pos rfl] at H; exact H
          clear H
          have H := H1
          clear H1
          replace H := Option.bind_eq_some_iff.mp H
          obtain ⟨⟨t483, t484, t485⟩, A300, H⟩ := H
          replace H : (if 0 ≤ (wrap64 (30000 + t483)) then (if (wrap64 (30000 + t483) : Int).toNat ≤ 281474976710656 then (some (strOfNums (List.replicate (wrap64 (30000 + t483) : Int).toNat 0))) else (none)) else (none)) = some r := H
          have A30 := Aside0.mk A300
          clear A300
          obtain ⟨ji31, hji31⟩ : ∃ j_ : Int, (wrap64 (30000 + t483)) = j_ := ⟨_, rfl⟩
          replace H : (if 0 ≤ (ji31) then (if (ji31 : Int).toNat ≤ 281474976710656 then (some (strOfNums (List.replicate (ji31 : Int).toNat 0))) else (none)) else (none)) = some r := by first | (rw [hji31] at H; exact H) | (simp only [hji31] at H ⊢; exact H)
          (try rw [hji31] at A28)
          (try rw [hji31] at A30)
          have hji31w : (IntKind.i64.wrap (30000 + t483)) = ji31 := (i64_w _).trans hji31
          by_cases c32 : 0 ≤ (ji31)
          · rw [if_pos c32] at H
            have c32b0 := eq_true c32
            have c32b1 : decide (0 ≤ (ji31)) = true := decide_eq_true c32
            clear c32
            by_cases c33 : (ji31 : Int).toNat ≤ 281474976710656
            · rw [if_pos c33] at H
              have c33b0 := eq_true c33
              have c33b1 : decide ((ji31 : Int).toNat ≤ 281474976710656) = true := decide_eq_true c33
              clear c33
              obtain ⟨y486, hy486⟩ : ∃ y_ : List Int, y_ = (List.replicate (ji31 : Int).toNat 0) := ⟨_, rfl⟩
              replace H : (some (strOfNums y486)) = some r := by first | (rw [hy486]; with_reducible exact H) | (have H2_ := (Option.bind_some _ _).symm.trans H; rw [hy486]; with_reducible exact H2_) | (have H2_ := (Option.bind_some _ _).symm.trans H; with_reducible exact H2_) | with_reducible exact H | (rw [hy486]; exact H) | exact H
              have Ny486 := Aside0.mk hy486
              clear hy486
              obtain rfl := Option.some.inj H
              go_wp2_with (first | ((with_reducible refine gate_callee (f := 56) rfl ?_); refine goesL_ (some 42) rfl rfl Tryd.func56 (by kernel_rfl) rfl #[.pointer (some ⟨gb456, 0, none⟩), .int .i64 40] rfl (by (try simp only [List.map_toArray, List.map_cons, List.map_nil]); first | done | rfl | (simp only [List.length_drop, List.length_take]; rfl)) ?_; (with_reducible refine (spec_l1Cur_one.calls gb456 l0 x457001_4 x457002_4 40 true t481 t482 w _ ?side1 ?side2 A28.out).mono ?_); (case side1 => repeat (first | (with_reducible first | exact HI456.out | apply IsS70.alloc | apply IsS70.drewN | apply IsS70.drew | apply IsS70.set_1 | apply IsS70.set_2 | refine IsS70.far ?_ NB456_462.out _) | exact HI456.out)); (case side2 => repeat (first | (with_reducible first | exact HB.out | apply below_alloc | apply pw_below_drewN | apply below_drew1 | refine below_set ?_ (IsS70.ge HI456.out) | refine below_set ?_ GE462.out) | exact HB.out)); rintro e w34 ⟨rfl, hi, hb, hk⟩; refine ⟨_, rfl, ?_⟩; have n0_ := Aside0.mk (KeepBut.blk hk (g' := gb462) (o := .cells #[.string t457, .string t458, .int .i64 t459] 26 (0, 0)) (by (with_reducible repeat (first | refine blk_drewN ?_ _ | refine blk_drew ?_ | refine blk_alloc ?_ _)); exact BK462.out) NB462_456.out (by simp)); have n1_ := Aside0.mk (hb); have n2_ := Aside0.mk (hi); clear BK462; clear HB; clear HI456; have BK462 := n0_; have HB := n1_; have HI456 := n2_; clear n0_ n1_ n2_; (try clear hb); (try clear hb2); (try clear hk); (try clear hi)) | ((with_reducible refine gate_callee (f := 54) rfl ?_); refine goesL_ (some 44) rfl rfl Tryd.func54 (by kernel_rfl) rfl #[.pointer (some ⟨gb456, 0, none⟩), .int .i64 2] rfl (by (try simp only [List.map_toArray, List.map_cons, List.map_nil]); first | done | rfl | (simp only [List.length_drop, List.length_take]; rfl)) ?_; (with_reducible refine (spec_l1Cur_pick.calls gb456 l0 t481 t482 2 t483 t484 t485 w _ ?side1 ?side2 A30.out).mono ?_); (case side1 => repeat (first | (with_reducible first | exact HI456.out | apply IsS70.alloc | apply IsS70.drewN | apply IsS70.drew | apply IsS70.set_1 | apply IsS70.set_2 | refine IsS70.far ?_ NB456_462.out _) | exact HI456.out)); (case side2 => repeat (first | (with_reducible first | exact HB.out | apply below_alloc | apply pw_below_drewN | apply below_drew1 | refine below_set ?_ (IsS70.ge HI456.out) | refine below_set ?_ GE462.out) | exact HB.out)); rintro e w35 ⟨rfl, hi, hb, hk⟩; refine ⟨_, rfl, ?_⟩; have n0_ := Aside0.mk (KeepBut.blk hk (g' := gb462) (o := .cells #[.string t457, .string t458, .int .i64 t459] 26 (0, 0)) (by (with_reducible repeat (first | refine blk_drewN ?_ _ | refine blk_drew ?_ | refine blk_alloc ?_ _)); exact BK462.out) NB462_456.out (by simp)); have n1_ := Aside0.mk (hb); have n2_ := Aside0.mk (hi); clear BK462; clear HB; clear HI456; have BK462 := n0_; have HB := n1_; have HI456 := n2_; clear n0_ n1_ n2_; (try clear hb); (try clear hb2); (try clear hk); (try clear hi)) | ((with_reducible refine gate_dst (N := 46) rfl ?_); refine Kd.R_make (Kd.int .u8) _ 5 rfl (N := 46) rfl 48 _ _ rfl ji31 rfl rfl Tryd.underlying48 (.int .u8 0) 1 info5 rfl (by decide) (by omega) 0 (ok := fun _ => True) (okp := fun _ => True) rfl (fun _ hk => hk) trivial (of_decide_eq_true (by first | (with_reducible assumption) | assumption)) (Nat.le_trans (Nat.mul_le_mul_right _ (of_decide_eq_true (by first | (with_reducible assumption) | assumption) : ji31.toNat ≤ 281474976710656)) (by omega)) (Below.refl _ _) (Nat.le_refl _) ?_; intro v487 w36 ho37 hb hg_ hnew_; clear hg_ hnew_; (first | rw [← Ny486.out] at ho37 | (simp only [Int.reduceToNat] at ho37; rw [← Ny486.out] at ho37)); have n0_ := Aside0.mk (Kd.R_lower ho37 (below_size (by repeat (first | (with_reducible first | exact HB.out | apply below_alloc | apply pw_below_drewN | apply below_drew1 | refine below_set ?_ (IsS70.ge HI456.out) | refine below_set ?_ GE462.out) | exact HB.out)))); have n1_ := Aside0.mk (blk_below (g := gb462) (o := .cells #[.string t457, .string t458, .int .i64 t459] 26 (0, 0)) (by (with_reducible repeat (first | refine blk_drewN ?_ _ | refine blk_drew ?_ | refine blk_alloc ?_ _)); exact BK462.out) hb); have n2_ := Aside0.mk (IsS70.below (by repeat (first | (with_reducible first | exact HI456.out | apply IsS70.alloc | apply IsS70.drewN | apply IsS70.drew | apply IsS70.set_1 | apply IsS70.set_2 | refine IsS70.far ?_ NB456_462.out _) | exact HI456.out)) hb); have n3_ := Aside0.mk (below_step (by repeat (first | (with_reducible first | exact HB.out | apply below_alloc | apply pw_below_drewN | apply below_drew1 | refine below_set ?_ (IsS70.ge HI456.out) | refine below_set ?_ GE462.out) | exact HB.out)) hb); clear BK462; clear HI456; clear HB; have HO488 := n0_; have BK462 := n1_; have HI456 := n2_; have HB := n3_; clear n0_ n1_ n2_ n3_; clear hb ho37; have hcv38 := own_string (P := Tryd.prog) Tryd.underlying48 Tryd.underlying5 Tryd.underlying9 (Kd.own_of_R HO488.out)))
              go_ret
              exact ⟨by first | rfl | (simp [errW_none, errW_some] <;> rfl) | (simp only [← hji31]; first | rfl | (simp [errW_none, errW_some] <;> rfl)) | (simp [*, errW_none, errW_some] <;> rfl), by repeat (first | (with_reducible first | exact HB.out | apply below_alloc | apply pw_below_drewN | apply below_drew1 | refine below_set ?_ (IsS70.ge HI456.out) | refine below_set ?_ GE462.out) | exact HB.out)⟩
            · rw [if_neg c33] at H
              exact absurd H (by simp)
          · rw [if_neg c32] at H
            exact absurd H (by simp)
        · replace c29 := Bool.eq_false_iff.mpr c29
          subst c29
          have H1 : (some x5_4) = some r := by rw [if_neg (show ¬ (false = true) by decide)] at H; exact H
          clear H
          have H := H1
          clear H1
          obtain rfl := Option.some.inj H
          go_wp2_with (first | ((with_reducible refine gate_callee (f := 56) rfl ?_); refine goesL_ (some 42) rfl rfl Tryd.func56 (by kernel_rfl) rfl #[.pointer (some ⟨gb456, 0, none⟩), .int .i64 40] rfl (by (try simp only [List.map_toArray, List.map_cons, List.map_nil]); first | done | rfl | (simp only [List.length_drop, List.length_take]; rfl)) ?_; (with_reducible refine (spec_l1Cur_one.calls gb456 l0 x457001_4 x457002_4 40 false t481 t482 w _ ?side1 ?side2 A28.out).mono ?_); (case side1 => repeat (first | (with_reducible first | exact HI456.out | apply IsS70.alloc | apply IsS70.drewN | apply IsS70.drew | apply IsS70.set_1 | apply IsS70.set_2 | refine IsS70.far ?_ NB456_462.out _) | exact HI456.out)); (case side2 => repeat (first | (with_reducible first | exact HB.out | apply below_alloc | apply pw_below_drewN | apply below_drew1 | refine below_set ?_ (IsS70.ge HI456.out) | refine below_set ?_ GE462.out) | exact HB.out)); rintro e w39 ⟨rfl, hi, hb, hk⟩; refine ⟨_, rfl, ?_⟩; have n0_ := Aside0.mk (KeepBut.blk hk (g' := gb462) (o := .cells #[.string t457, .string t458, .int .i64 t459] 26 (0, 0)) (by (with_reducible repeat (first | refine blk_drewN ?_ _ | refine blk_drew ?_ | refine blk_alloc ?_ _)); exact BK462.out) NB462_456.out (by simp)); have n1_ := Aside0.mk (hb); have n2_ := Aside0.mk (hi); clear BK462; clear HB; clear HI456; have BK462 := n0_; have HB := n1_; have HI456 := n2_; clear n0_ n1_ n2_; (try clear hb); (try clear hb2); (try clear hk); (try clear hi)))
          go_ret
          exact ⟨by first | rfl | (simp [errW_none, errW_some] <;> rfl) | (simp [*, errW_none, errW_some] <;> rfl), by repeat (first | (with_reducible first | exact HB.out | apply below_alloc | apply pw_below_drewN | apply below_drew1 | refine below_set ?_ (IsS70.ge HI456.out) | refine below_set ?_ GE462.out) | exact HB.out)⟩
  · rw [if_neg c3] at H
    exact absurd H (by simp)

end

section
attribute [local go_sem high] run_add_cat run_slice_cat run_slice_cat_h run_slice_cat_l run_slice_cat_all
/-! ### impl_RecoverLog: function 34 -/
def impl_RecoverLog.f (k : Nat) (a0 : ByteArray) : Option (ByteArray × ByteArray × Int × Int × Bool) := if (a0.size : Int) > 30000 then (some ((⟨#[]⟩ : ByteArray), (⟨#[]⟩ : ByteArray), 0, 0, false)) else ((impl_readLog.f k a0).bind fun bt490 => (if (bt490.2.length : Int) > 0 then (if 0 ≤ (wrap64 ((bt490.2.length : Int) - 1)) then (if (wrap64 ((bt490.2.length : Int) - 1)) < (bt490.2.length : Int) then (if 0 ≤ (rd bt490.2 (wrap64 ((bt490.2.length : Int) - 1))) then (if (rd bt490.2 (wrap64 ((bt490.2.length : Int) - 1))) ≤ (a0.size : Int) then (some (subs a0 0 ((rd bt490.2 (wrap64 ((bt490.2.length : Int) - 1))) : Int).toNat, (⟨#[]⟩ : ByteArray), (bt490.1.length : Int), rd bt490.2 (wrap64 ((bt490.2.length : Int) - 1)), true)) else (none)) else (none)) else (none)) else (none)) else (if 0 ≤ 0 then (if 0 ≤ (a0.size : Int) then (some (subs a0 0 0, (⟨#[]⟩ : ByteArray), (bt490.1.length : Int), 0, true)) else (none)) else (none))))
set_option maxHeartbeats 8000000 in
set_option maxRecDepth 100000 in
theorem impl_RecoverLog.calls (k : Nat) (a0 : ByteArray) (r1 : ByteArray) (r2 : ByteArray) (r3 : Int) (r4 : Int) (r5 : Bool) (w : World) (hG : Gl w) (h : impl_RecoverLog.f k a0 = some (r1, r2, r3, r4, r5)) :
    Calls Tryd.prog 34 #[.string a0] w fun e w' => e = .returned (.tuple #[.agg #[.string r1, .string r2, .int .i64 r3], .int .i64 r4, .bool r5]) ∧ Below w.heap.size w w' := by
  have hu26 := Tryd.underlying26
  have HG := Aside0.mk hG
  clear hG
  have HB := Aside0.mk (Below.refl w.heap.size w)
  have H : (if (a0.size : Int) > 30000 then (some ((⟨#[]⟩ : ByteArray), (⟨#[]⟩ : ByteArray), 0, 0, false)) else ((impl_readLog.f k a0).bind fun bt490 => (if (bt490.2.length : Int) > 0 then (if 0 ≤ (wrap64 ((bt490.2.length : Int) - 1)) then (if (wrap64 ((bt490.2.length : Int) - 1)) < (bt490.2.length : Int) then (if 0 ≤ (rd bt490.2 (wrap64 ((bt490.2.length : Int) - 1))) then (if (rd bt490.2 (wrap64 ((bt490.2.length : Int) - 1))) ≤ (a0.size : Int) then (some (subs a0 0 ((rd bt490.2 (wrap64 ((bt490.2.length : Int) - 1))) : Int).toNat, (⟨#[]⟩ : ByteArray), (bt490.1.length : Int), rd bt490.2 (wrap64 ((bt490.2.length : Int) - 1)), true)) else (none)) else (none)) else (none)) else (none)) else (if 0 ≤ 0 then (if 0 ≤ (a0.size : Int) then (some (subs a0 0 0, (⟨#[]⟩ : ByteArray), (bt490.1.length : Int), 0, true)) else (none)) else (none))))) = some (r1, r2, r3, r4, r5) := h
  clear h
  by_cases c2 : (a0.size : Int) > 30000
  · rw [if_pos c2] at H
    have c2b0 : decide (30000 < (a0.size : Int)) = true := decide_eq_true c2
    have c2b1 : decide (30000 < a0.size) = true := decide_eq_true (by omega)
    clear c2
    simp only [Option.some.injEq, Prod.mk.injEq] at H
    obtain ⟨rfl, rfl, rfl, rfl, rfl⟩ := H
    go_enter Tryd.func34, Tryd.ntmps34
    go_wp2_with (first | ((with_reducible refine gate_dst (N := 2) rfl ?_); refine box_event ?hg (N := 2) ?hd (cs := #[.string (⟨#[]⟩ : ByteArray), .string (⟨#[]⟩ : ByteArray), .int .i64 0]) (t := 26) ?hr ?_; (case hd => rfl); (case hg => rfl); (case hr => first | (go_simp; done) | (go_simp; rfl)); intro gb489 hg w3 hbox hb; have n0_ := Aside0.mk (below_step (by repeat (first | (with_reducible first | exact HB.out | apply below_alloc | apply pw_below_drewN | apply below_drew1) | exact HB.out)) hb); have n1_ := Aside0.mk (hbox); have n2_ := Aside0.mk ((by rw [hg]; exact (below_size (by repeat (first | (with_reducible first | exact HB.out | apply below_alloc | apply pw_below_drewN | apply below_drew1) | exact HB.out))) : w.heap.size ≤ gb489)); have n3_ := Aside0.mk ((by rw [hg]; exact (below_size (by repeat (first | (with_reducible first | exact HB.out | apply below_alloc | apply pw_below_drewN | apply below_drew1) | exact HB.out))) : w.heap.size ≤ gb489)); clear HB; have HB := n0_; have BK489 := n1_; have GW489 := n2_; have GE489 := n3_; clear n0_ n1_ n2_ n3_; clear hb hbox hg; have hcz4_0 : w3.cell? ⟨gb489, 0, none⟩ = some (.string (⟨#[]⟩ : ByteArray)) := (blk_cell BK489.out 0).trans rfl; have hcz4_1 : w3.cell? ⟨gb489, 1, none⟩ = some (.string (⟨#[]⟩ : ByteArray)) := (blk_cell BK489.out 1).trans rfl; have hcz4_2 : w3.cell? ⟨gb489, 2, none⟩ = some (.int .i64 0) := (blk_cell BK489.out 2).trans rfl; have hfz4_0 := blk_frozen BK489.out 0; have hfz4_1 := blk_frozen BK489.out 1; have hfz4_2 := blk_frozen BK489.out 2))
    refine bodyPost_ret (results_ctt rfl _ _ gb489 26 #[.string (⟨#[]⟩ : ByteArray), .string (⟨#[]⟩ : ByteArray), .int .i64 0] (0, 0) _ rfl (by (with_reducible repeat (first | refine blk_drewN ?_ _ | refine blk_drew ?_ | refine blk_alloc ?_ _)); refine blk_put (cs := #[.string (⟨#[]⟩ : ByteArray), .string (⟨#[]⟩ : ByteArray), .int .i64 0]) ?_ 2 _ rfl; (with_reducible repeat (first | refine blk_drewN ?_ _ | refine blk_drew ?_ | refine blk_alloc ?_ _)); refine blk_put (cs := #[.string (⟨#[]⟩ : ByteArray), .string (⟨#[]⟩ : ByteArray), .int .i64 0]) ?_ 1 _ rfl; (with_reducible repeat (first | refine blk_drewN ?_ _ | refine blk_drew ?_ | refine blk_alloc ?_ _)); refine blk_put (cs := #[.string (⟨#[]⟩ : ByteArray), .string (⟨#[]⟩ : ByteArray), .int .i64 0]) ?_ 0 _ rfl; (with_reducible repeat (first | refine blk_drewN ?_ _ | refine blk_drew ?_ | refine blk_alloc ?_ _)); exact BK489.out) Tryd.underlying26 rfl (by kernel_rfl)) rfl ?_
    exact ⟨by first | rfl | (simp [errW_none, errW_some] <;> rfl) | (simp [*, errW_none, errW_some] <;> rfl), by repeat (first | (with_reducible first | exact HB.out | apply below_alloc | apply pw_below_drewN | apply below_drew1 | refine below_set ?_ GE489.out) | exact HB.out)⟩
  · rw [if_neg c2] at H
    have c2b0 : decide (30000 < (a0.size : Int)) = false := decide_eq_false c2
    have c2b1 : decide (30000 < a0.size) = false := decide_eq_false (by omega)
    clear c2
    replace H := Option.bind_eq_some_iff.mp H
    obtain ⟨⟨t490, t491⟩, A50, H⟩ := H
    replace H : (if (t491.length : Int) > 0 then (if 0 ≤ (wrap64 ((t491.length : Int) - 1)) then (if (wrap64 ((t491.length : Int) - 1)) < (t491.length : Int) then (if 0 ≤ (rd t491 (wrap64 ((t491.length : Int) - 1))) then (if (rd t491 (wrap64 ((t491.length : Int) - 1))) ≤ (a0.size : Int) then (some (subs a0 0 ((rd t491 (wrap64 ((t491.length : Int) - 1))) : Int).toNat, (⟨#[]⟩ : ByteArray), (t490.length : Int), rd t491 (wrap64 ((t491.length : Int) - 1)), true)) else (none)) else (none)) else (none)) else (none)) else (if 0 ≤ 0 then (if 0 ≤ (a0.size : Int) then (some (subs a0 0 0, (⟨#[]⟩ : ByteArray), (t490.length : Int), 0, true)) else (none)) else (none))) = some (r1, r2, r3, r4, r5) := H
    have A5 := Aside0.mk A50
    clear A50
    by_cases c6 : (t491.length : Int) > 0
    · rw [if_pos c6] at H
      have c6b0 : decide (0 < (t491.length : Int)) = true := decide_eq_true c6
      have c6b1 : decide (0 < t491.length) = true := decide_eq_true (by omega)
      clear c6
      obtain ⟨ji7, hji7⟩ : ∃ j_ : Int, (wrap64 ((t491.length : Int) - 1)) = j_ := ⟨_, rfl⟩
      replace H : (if 0 ≤ (ji7) then (if (ji7) < (t491.length : Int) then (if 0 ≤ (rd t491 (ji7)) then (if (rd t491 (ji7)) ≤ (a0.size : Int) then (some (subs a0 0 ((rd t491 (ji7)) : Int).toNat, (⟨#[]⟩ : ByteArray), (t490.length : Int), rd t491 (ji7), true)) else (none)) else (none)) else (none)) else (none)) = some (r1, r2, r3, r4, r5) := by first | (rw [hji7] at H; exact H) | (simp only [hji7] at H ⊢; exact H)
      (try rw [hji7] at A5)
      have hji7w : (IntKind.i64.wrap ((t491.length : Int) - 1)) = ji7 := (i64_w _).trans hji7
      by_cases c8 : 0 ≤ (ji7)
      · rw [if_pos c8] at H
        have c8b0 : decide (0 ≤ (ji7)) = true := decide_eq_true c8
        clear c8
        by_cases c9 : (ji7) < (t491.length : Int)
        · rw [if_pos c9] at H
          have c9b0 : decide ((ji7) < (t491.length : Int)) = true := decide_eq_true c9
          clear c9
          by_cases c10 : 0 ≤ (rd t491 (ji7))
          · rw [if_pos c10] at H
            have c10b0 := eq_true c10
            have c10b1 : decide (0 ≤ (rd t491 (ji7))) = true := decide_eq_true c10
            clear c10
            by_cases c11 : (rd t491 (ji7)) ≤ (a0.size : Int)
            · rw [if_pos c11] at H
              have c11b0 := eq_true c11
              have c11b1 : decide ((rd t491 (ji7)) ≤ (a0.size : Int)) = true := decide_eq_true c11
              clear c11
              simp only [Option.some.injEq, Prod.mk.injEq] at H
              obtain ⟨rfl, rfl, rfl, rfl, rfl⟩ := H
              go_enter Tryd.func34, Tryd.ntmps34
              go_wp2_with (first | ((with_reducible refine gate_dst (N := 2) rfl ?_); refine box_event ?hg (N := 2) ?hd (cs := #[.string (⟨#[]⟩ : ByteArray), .string (⟨#[]⟩ : ByteArray), .int .i64 0]) (t := 26) ?hr ?_; (case hd => rfl); (case hg => rfl); (case hr => first | (go_simp; done) | (go_simp; rfl)); intro gb489 hg w12 hbox hb; have n0_ := Aside0.mk (below_step (by repeat (first | (with_reducible first | exact HB.out | apply below_alloc | apply pw_below_drewN | apply below_drew1) | exact HB.out)) hb); have n1_ := Aside0.mk (hbox); have n2_ := Aside0.mk ((by rw [hg]; exact (below_size (by repeat (first | (with_reducible first | exact HB.out | apply below_alloc | apply pw_below_drewN | apply below_drew1) | exact HB.out))) : w.heap.size ≤ gb489)); have n3_ := Aside0.mk ((by rw [hg]; exact (below_size (by repeat (first | (with_reducible first | exact HB.out | apply below_alloc | apply pw_below_drewN | apply below_drew1) | exact HB.out))) : w.heap.size ≤ gb489)); clear HB; have HB := n0_; have BK489 := n1_; have GW489 := n2_; have GE489 := n3_; clear n0_ n1_ n2_ n3_; clear hb hbox hg) | ((with_reducible refine gate_callee (f := 57) rfl ?_); refine goesL_ (some 14) rfl rfl Tryd.func57 (by kernel_rfl) rfl #[.string a0] rfl (by (try simp only [List.map_toArray, List.map_cons, List.map_nil]); first | done | rfl | (simp only [List.length_drop, List.length_take]; rfl)) ?_; (with_reducible refine (impl_readLog.calls k a0 t490 t491 _ ?side1 A5.out).mono ?_); (case side1 => exact Gl.below HG.out (by repeat (first | (with_reducible first | exact HB.out | apply below_alloc | apply pw_below_drewN | apply below_drew1 | refine below_set ?_ GE489.out) | exact HB.out))); rintro e w13 ⟨v492, v494, rfl, ho0, ho1, hb⟩; refine ⟨_, rfl, ?_⟩; have n0_ := Aside0.mk (Kd.R_lower ho0 (below_size (by repeat (first | (with_reducible first | exact HB.out | apply below_alloc | apply pw_below_drewN | apply below_drew1 | refine below_set ?_ GE489.out) | exact HB.out)))); have n1_ := Aside0.mk (Kd.R_lower ho1 (below_size (by repeat (first | (with_reducible first | exact HB.out | apply below_alloc | apply pw_below_drewN | apply below_drew1 | refine below_set ?_ GE489.out) | exact HB.out)))); have n2_ := Aside0.mk (blk_below (g := gb489) (o := .cells #[.string (⟨#[]⟩ : ByteArray), .string (⟨#[]⟩ : ByteArray), .int .i64 0] 26 (0, 0)) (by (with_reducible repeat (first | refine blk_drewN ?_ _ | refine blk_drew ?_ | refine blk_alloc ?_ _)); exact BK489.out) hb); have n3_ := Aside0.mk (below_step (by repeat (first | (with_reducible first | exact HB.out | apply below_alloc | apply pw_below_drewN | apply below_drew1 | refine below_set ?_ GE489.out) | exact HB.out)) hb); clear BK489; clear HB; have HO493 := n0_; have HO495 := n1_; have BK489 := n2_; have HB := n3_; clear n0_ n1_ n2_ n3_; (try clear hb); (try clear hb2); (try clear hk); (try clear hi); (try clear ho0); (try clear ho1); obtain ⟨Ao14, co14, eo14⟩ := Kd.R_slice HO495.out; subst eo14; have p496 : 0 ≤ ((ji7) : Int) := of_decide_eq_true (by first | (with_reducible assumption) | assumption); have q496 : (ji7) < (t491.length : Int) := of_decide_eq_true (by first | (with_reducible assumption) | assumption); obtain ⟨ad496, e496, hx496_0⟩ := Kd.at_int (Kd.R_reads' HO495.out).2.2 (ji7) p496 q496; cases e496; replace p496 := eq_true p496; replace q496 := eq_true q496; obtain ⟨Ao15, co15, eo15⟩ := Kd.R_slice HO493.out; subst eo15; have hcz16_0 : w13.cell? ⟨gb489, 0, none⟩ = some (.string (⟨#[]⟩ : ByteArray)) := (blk_cell BK489.out 0).trans rfl; have hcz16_1 : w13.cell? ⟨gb489, 1, none⟩ = some (.string (⟨#[]⟩ : ByteArray)) := (blk_cell BK489.out 1).trans rfl; have hcz16_2 : w13.cell? ⟨gb489, 2, none⟩ = some (.int .i64 0) := (blk_cell BK489.out 2).trans rfl; have hfz16_0 := blk_frozen BK489.out 0; have hfz16_1 := blk_frozen BK489.out 1; have hfz16_2 := blk_frozen BK489.out 2))
              refine bodyPost_ret (results_ctt rfl _ _ gb489 26 #[.string (subs a0 0 ((rd t491 (ji7)) : Int).toNat), .string (⟨#[]⟩ : ByteArray), .int .i64 (t490.length : Int)] (0, 0) _ rfl (by (with_reducible repeat (first | refine blk_drewN ?_ _ | refine blk_drew ?_ | refine blk_alloc ?_ _)); refine blk_put (cs := #[.string (subs a0 0 ((rd t491 (ji7)) : Int).toNat), .string (⟨#[]⟩ : ByteArray), .int .i64 0]) ?_ 2 _ rfl; (with_reducible repeat (first | refine blk_drewN ?_ _ | refine blk_drew ?_ | refine blk_alloc ?_ _)); refine blk_put (cs := #[.string (subs a0 0 ((rd t491 (ji7)) : Int).toNat), .string (⟨#[]⟩ : ByteArray), .int .i64 0]) ?_ 1 _ rfl; (with_reducible repeat (first | refine blk_drewN ?_ _ | refine blk_drew ?_ | refine blk_alloc ?_ _)); refine blk_put (cs := #[.string (⟨#[]⟩ : ByteArray), .string (⟨#[]⟩ : ByteArray), .int .i64 0]) ?_ 0 _ rfl; (with_reducible repeat (first | refine blk_drewN ?_ _ | refine blk_drew ?_ | refine blk_alloc ?_ _)); exact BK489.out) Tryd.underlying26 rfl (by kernel_rfl)) rfl ?_
              exact ⟨by first | rfl | (simp [errW_none, errW_some] <;> rfl) | (simp only [← hji7]; first | rfl | (simp [errW_none, errW_some] <;> rfl)) | (simp [*, errW_none, errW_some] <;> rfl), by repeat (first | (with_reducible first | exact HB.out | apply below_alloc | apply pw_below_drewN | apply below_drew1 | refine below_set ?_ GE489.out) | exact HB.out)⟩
            · rw [if_neg c11] at H
              exact absurd H (by simp)
          · rw [if_neg c10] at H
            exact absurd H (by simp)
        · rw [if_neg c9] at H
          exact absurd H (by simp)
      · rw [if_neg c8] at H
        exact absurd H (by simp)
    · rw [if_neg c6] at H
      have c6b0 : decide (0 < (t491.length : Int)) = false := decide_eq_false c6
      have c6b1 : decide (0 < t491.length) = false := decide_eq_false (by omega)
      clear c6
      by_cases c17 : 0 ≤ 0
      · rw [if_pos c17] at H
        have c17b0 := eq_true c17
        have c17b1 : decide (0 ≤ 0) = true := decide_eq_true c17
        clear c17
        by_cases c18 : 0 ≤ (a0.size : Int)
        · rw [if_pos c18] at H
          have c18b0 := eq_true c18
          have c18b1 : decide (0 ≤ (a0.size : Int)) = true := decide_eq_true c18
          clear c18
          simp only [Option.some.injEq, Prod.mk.injEq] at H
          obtain ⟨rfl, rfl, rfl, rfl, rfl⟩ := H
          go_enter Tryd.func34, Tryd.ntmps34
          go_wp2_with (first | ((with_reducible refine gate_dst (N := 2) rfl ?_); refine box_event ?hg (N := 2) ?hd (cs := #[.string (⟨#[]⟩ : ByteArray), .string (⟨#[]⟩ : ByteArray), .int .i64 0]) (t := 26) ?hr ?_; (case hd => rfl); (case hg => rfl); (case hr => first | (go_simp; done) | (go_simp; rfl)); intro gb489 hg w19 hbox hb; have n0_ := Aside0.mk (below_step (by repeat (first | (with_reducible first | exact HB.out | apply below_alloc | apply pw_below_drewN | apply below_drew1) | exact HB.out)) hb); have n1_ := Aside0.mk (hbox); have n2_ := Aside0.mk ((by rw [hg]; exact (below_size (by repeat (first | (with_reducible first | exact HB.out | apply below_alloc | apply pw_below_drewN | apply below_drew1) | exact HB.out))) : w.heap.size ≤ gb489)); have n3_ := Aside0.mk ((by rw [hg]; exact (below_size (by repeat (first | (with_reducible first | exact HB.out | apply below_alloc | apply pw_below_drewN | apply below_drew1) | exact HB.out))) : w.heap.size ≤ gb489)); clear HB; have HB := n0_; have BK489 := n1_; have GW489 := n2_; have GE489 := n3_; clear n0_ n1_ n2_ n3_; clear hb hbox hg) | ((with_reducible refine gate_callee (f := 57) rfl ?_); refine goesL_ (some 14) rfl rfl Tryd.func57 (by kernel_rfl) rfl #[.string a0] rfl (by (try simp only [List.map_toArray, List.map_cons, List.map_nil]); first | done | rfl | (simp only [List.length_drop, List.length_take]; rfl)) ?_; (with_reducible refine (impl_readLog.calls k a0 t490 t491 _ ?side1 A5.out).mono ?_); (case side1 => exact Gl.below HG.out (by repeat (first | (with_reducible first | exact HB.out | apply below_alloc | apply pw_below_drewN | apply below_drew1 | refine below_set ?_ GE489.out) | exact HB.out))); rintro e w20 ⟨v492, v494, rfl, ho0, ho1, hb⟩; refine ⟨_, rfl, ?_⟩; have n0_ := Aside0.mk (Kd.R_lower ho0 (below_size (by repeat (first | (with_reducible first | exact HB.out | apply below_alloc | apply pw_below_drewN | apply below_drew1 | refine below_set ?_ GE489.out) | exact HB.out)))); have n1_ := Aside0.mk (Kd.R_lower ho1 (below_size (by repeat (first | (with_reducible first | exact HB.out | apply below_alloc | apply pw_below_drewN | apply below_drew1 | refine below_set ?_ GE489.out) | exact HB.out)))); have n2_ := Aside0.mk (blk_below (g := gb489) (o := .cells #[.string (⟨#[]⟩ : ByteArray), .string (⟨#[]⟩ : ByteArray), .int .i64 0] 26 (0, 0)) (by (with_reducible repeat (first | refine blk_drewN ?_ _ | refine blk_drew ?_ | refine blk_alloc ?_ _)); exact BK489.out) hb); have n3_ := Aside0.mk (below_step (by repeat (first | (with_reducible first | exact HB.out | apply below_alloc | apply pw_below_drewN | apply below_drew1 | refine below_set ?_ GE489.out) | exact HB.out)) hb); clear BK489; clear HB; have HO493 := n0_; have HO495 := n1_; have BK489 := n2_; have HB := n3_; clear n0_ n1_ n2_ n3_; (try clear hb); (try clear hb2); (try clear hk); (try clear hi); (try clear ho0); (try clear ho1); obtain ⟨Ao21, co21, eo21⟩ := Kd.R_slice HO495.out; subst eo21; obtain ⟨Ao22, co22, eo22⟩ := Kd.R_slice HO493.out; subst eo22; have hcz23_0 : w20.cell? ⟨gb489, 0, none⟩ = some (.string (⟨#[]⟩ : ByteArray)) := (blk_cell BK489.out 0).trans rfl; have hcz23_1 : w20.cell? ⟨gb489, 1, none⟩ = some (.string (⟨#[]⟩ : ByteArray)) := (blk_cell BK489.out 1).trans rfl; have hcz23_2 : w20.cell? ⟨gb489, 2, none⟩ = some (.int .i64 0) := (blk_cell BK489.out 2).trans rfl; have hfz23_0 := blk_frozen BK489.out 0; have hfz23_1 := blk_frozen BK489.out 1; have hfz23_2 := blk_frozen BK489.out 2))
          refine bodyPost_ret (results_ctt rfl _ _ gb489 26 #[.string (subs a0 0 0), .string (⟨#[]⟩ : ByteArray), .int .i64 (t490.length : Int)] (0, 0) _ rfl (by (with_reducible repeat (first | refine blk_drewN ?_ _ | refine blk_drew ?_ | refine blk_alloc ?_ _)); refine blk_put (cs := #[.string (subs a0 0 0), .string (⟨#[]⟩ : ByteArray), .int .i64 0]) ?_ 2 _ rfl; (with_reducible repeat (first | refine blk_drewN ?_ _ | refine blk_drew ?_ | refine blk_alloc ?_ _)); refine blk_put (cs := #[.string (subs a0 0 0), .string (⟨#[]⟩ : ByteArray), .int .i64 0]) ?_ 1 _ rfl; (with_reducible repeat (first | refine blk_drewN ?_ _ | refine blk_drew ?_ | refine blk_alloc ?_ _)); refine blk_put (cs := #[.string (⟨#[]⟩ : ByteArray), .string (⟨#[]⟩ : ByteArray), .int .i64 0]) ?_ 0 _ rfl; (with_reducible repeat (first | refine blk_drewN ?_ _ | refine blk_drew ?_ | refine blk_alloc ?_ _)); exact BK489.out) Tryd.underlying26 rfl (by kernel_rfl)) rfl ?_
          exact ⟨by first | rfl | (simp [errW_none, errW_some] <;> rfl) | (simp [*, errW_none, errW_some] <;> rfl), by repeat (first | (with_reducible first | exact HB.out | apply below_alloc | apply pw_below_drewN | apply below_drew1 | refine below_set ?_ GE489.out) | exact HB.out)⟩
        · rw [if_neg c18] at H
          exact absurd H (by simp)
      · rw [if_neg c17] at H
        exact absurd H (by simp)

end

section
attribute [local go_sem high] run_add_cat run_slice_cat run_slice_cat_h run_slice_cat_l run_slice_cat_all
/-! ### spec_RecoverLog: function 35 -/
def spec_RecoverLog.f (k : Nat) (a0 : ByteArray) : Option (ByteArray × ByteArray × Int × Int × Bool) := if (a0.size : Int) > 30000 then (some ((⟨#[]⟩ : ByteArray), (⟨#[]⟩ : ByteArray), 0, 0, false)) else ((spec_l27Open.f k a0).bind fun bt498 => (if 0 ≤ bt498.2 then (if bt498.2 ≤ (a0.size : Int) then (some (subs a0 0 (bt498.2 : Int).toNat, (⟨#[]⟩ : ByteArray), (bt498.1.length : Int), bt498.2, true)) else (none)) else (none)))
set_option maxHeartbeats 8000000 in
set_option maxRecDepth 100000 in
theorem spec_RecoverLog.calls (k : Nat) (a0 : ByteArray) (r1 : ByteArray) (r2 : ByteArray) (r3 : Int) (r4 : Int) (r5 : Bool) (w : World) (h : spec_RecoverLog.f k a0 = some (r1, r2, r3, r4, r5)) :
    Calls Tryd.prog 35 #[.string a0] w fun e w' => e = .returned (.tuple #[.agg #[.string r1, .string r2, .int .i64 r3], .int .i64 r4, .bool r5]) ∧ Below w.heap.size w w' := by
  have hu26 := Tryd.underlying26
  have HB := Aside0.mk (Below.refl w.heap.size w)
  have H : (if (a0.size : Int) > 30000 then (some ((⟨#[]⟩ : ByteArray), (⟨#[]⟩ : ByteArray), 0, 0, false)) else ((spec_l27Open.f k a0).bind fun bt498 => (if 0 ≤ bt498.2 then (if bt498.2 ≤ (a0.size : Int) then (some (subs a0 0 (bt498.2 : Int).toNat, (⟨#[]⟩ : ByteArray), (bt498.1.length : Int), bt498.2, true)) else (none)) else (none)))) = some (r1, r2, r3, r4, r5) := h
  clear h
  by_cases c2 : (a0.size : Int) > 30000
  · rw [if_pos c2] at H
    have c2b0 : decide (30000 < (a0.size : Int)) = true := decide_eq_true c2
    have c2b1 : decide (30000 < a0.size) = true := decide_eq_true (by omega)
    clear c2
    simp only [Option.some.injEq, Prod.mk.injEq] at H
    obtain ⟨rfl, rfl, rfl, rfl, rfl⟩ := H
    go_enter Tryd.func35, Tryd.ntmps35
    go_wp2_with (first | ((with_reducible refine gate_dst (N := 2) rfl ?_); refine box_event ?hg (N := 2) ?hd (cs := #[.string (⟨#[]⟩ : ByteArray), .string (⟨#[]⟩ : ByteArray), .int .i64 0]) (t := 26) ?hr ?_; (case hd => rfl); (case hg => rfl); (case hr => first | (go_simp; done) | (go_simp; rfl)); intro gb497 hg w3 hbox hb; have n0_ := Aside0.mk (below_step (by repeat (first | (with_reducible first | exact HB.out | apply below_alloc | apply pw_below_drewN | apply below_drew1) | exact HB.out)) hb); have n1_ := Aside0.mk (hbox); have n2_ := Aside0.mk ((by rw [hg]; exact (below_size (by repeat (first | (with_reducible first | exact HB.out | apply below_alloc | apply pw_below_drewN | apply below_drew1) | exact HB.out))) : w.heap.size ≤ gb497)); have n3_ := Aside0.mk ((by rw [hg]; exact (below_size (by repeat (first | (with_reducible first | exact HB.out | apply below_alloc | apply pw_below_drewN | apply below_drew1) | exact HB.out))) : w.heap.size ≤ gb497)); clear HB; have HB := n0_; have BK497 := n1_; have GW497 := n2_; have GE497 := n3_; clear n0_ n1_ n2_ n3_; clear hb hbox hg; have hcz4_0 : w3.cell? ⟨gb497, 0, none⟩ = some (.string (⟨#[]⟩ : ByteArray)) := (blk_cell BK497.out 0).trans rfl; have hcz4_1 : w3.cell? ⟨gb497, 1, none⟩ = some (.string (⟨#[]⟩ : ByteArray)) := (blk_cell BK497.out 1).trans rfl; have hcz4_2 : w3.cell? ⟨gb497, 2, none⟩ = some (.int .i64 0) := (blk_cell BK497.out 2).trans rfl; have hfz4_0 := blk_frozen BK497.out 0; have hfz4_1 := blk_frozen BK497.out 1; have hfz4_2 := blk_frozen BK497.out 2))
    refine bodyPost_ret (results_ctt rfl _ _ gb497 26 #[.string (⟨#[]⟩ : ByteArray), .string (⟨#[]⟩ : ByteArray), .int .i64 0] (0, 0) _ rfl (by (with_reducible repeat (first | refine blk_drewN ?_ _ | refine blk_drew ?_ | refine blk_alloc ?_ _)); refine blk_put (cs := #[.string (⟨#[]⟩ : ByteArray), .string (⟨#[]⟩ : ByteArray), .int .i64 0]) ?_ 2 _ rfl; (with_reducible repeat (first | refine blk_drewN ?_ _ | refine blk_drew ?_ | refine blk_alloc ?_ _)); refine blk_put (cs := #[.string (⟨#[]⟩ : ByteArray), .string (⟨#[]⟩ : ByteArray), .int .i64 0]) ?_ 1 _ rfl; (with_reducible repeat (first | refine blk_drewN ?_ _ | refine blk_drew ?_ | refine blk_alloc ?_ _)); refine blk_put (cs := #[.string (⟨#[]⟩ : ByteArray), .string (⟨#[]⟩ : ByteArray), .int .i64 0]) ?_ 0 _ rfl; (with_reducible repeat (first | refine blk_drewN ?_ _ | refine blk_drew ?_ | refine blk_alloc ?_ _)); exact BK497.out) Tryd.underlying26 rfl (by kernel_rfl)) rfl ?_
    exact ⟨by first | rfl | (simp [errW_none, errW_some] <;> rfl) | (simp [*, errW_none, errW_some] <;> rfl), by repeat (first | (with_reducible first | exact HB.out | apply below_alloc | apply pw_below_drewN | apply below_drew1 | refine below_set ?_ GE497.out) | exact HB.out)⟩
  · rw [if_neg c2] at H
    have c2b0 : decide (30000 < (a0.size : Int)) = false := decide_eq_false c2
    have c2b1 : decide (30000 < a0.size) = false := decide_eq_false (by omega)
    clear c2
    replace H := Option.bind_eq_some_iff.mp H
    obtain ⟨⟨t498, t499⟩, A50, H⟩ := H
    replace H : (if 0 ≤ t499 then (if t499 ≤ (a0.size : Int) then (some (subs a0 0 (t499 : Int).toNat, (⟨#[]⟩ : ByteArray), (t498.length : Int), t499, true)) else (none)) else (none)) = some (r1, r2, r3, r4, r5) := H
    have A5 := Aside0.mk A50
    clear A50
    by_cases c6 : 0 ≤ t499
    · rw [if_pos c6] at H
      have c6b0 := eq_true c6
      have c6b1 : decide (0 ≤ t499) = true := decide_eq_true c6
      clear c6
      by_cases c7 : t499 ≤ (a0.size : Int)
      · rw [if_pos c7] at H
        have c7b0 := eq_true c7
        have c7b1 : decide (t499 ≤ (a0.size : Int)) = true := decide_eq_true c7
        clear c7
        simp only [Option.some.injEq, Prod.mk.injEq] at H
        obtain ⟨rfl, rfl, rfl, rfl, rfl⟩ := H
        go_enter Tryd.func35, Tryd.ntmps35
        go_wp2_with (first | ((with_reducible refine gate_dst (N := 2) rfl ?_); refine box_event ?hg (N := 2) ?hd (cs := #[.string (⟨#[]⟩ : ByteArray), .string (⟨#[]⟩ : ByteArray), .int .i64 0]) (t := 26) ?hr ?_; (case hd => rfl); (case hg => rfl); (case hr => first | (go_simp; done) | (go_simp; rfl)); intro gb497 hg w8 hbox hb; have n0_ := Aside0.mk (below_step (by repeat (first | (with_reducible first | exact HB.out | apply below_alloc | apply pw_below_drewN | apply below_drew1) | exact HB.out)) hb); have n1_ := Aside0.mk (hbox); have n2_ := Aside0.mk ((by rw [hg]; exact (below_size (by repeat (first | (with_reducible first | exact HB.out | apply below_alloc | apply pw_below_drewN | apply below_drew1) | exact HB.out))) : w.heap.size ≤ gb497)); have n3_ := Aside0.mk ((by rw [hg]; exact (below_size (by repeat (first | (with_reducible first | exact HB.out | apply below_alloc | apply pw_below_drewN | apply below_drew1) | exact HB.out))) : w.heap.size ≤ gb497)); clear HB; have HB := n0_; have BK497 := n1_; have GW497 := n2_; have GE497 := n3_; clear n0_ n1_ n2_ n3_; clear hb hbox hg) | ((with_reducible refine gate_callee (f := 46) rfl ?_); refine goesL_ (some 13) rfl rfl Tryd.func46 (by kernel_rfl) rfl #[.string a0] rfl (by (try simp only [List.map_toArray, List.map_cons, List.map_nil]); first | done | rfl | (simp only [List.length_drop, List.length_take]; rfl)) ?_; (with_reducible refine (spec_l27Open.calls k a0 t498 t499 _ A5.out).mono ?_); rintro e w9 ⟨v500, rfl, ho0, hb⟩; refine ⟨_, rfl, ?_⟩; have n0_ := Aside0.mk (Kd.R_lower ho0 (below_size (by repeat (first | (with_reducible first | exact HB.out | apply below_alloc | apply pw_below_drewN | apply below_drew1 | refine below_set ?_ GE497.out) | exact HB.out)))); have n1_ := Aside0.mk (blk_below (g := gb497) (o := .cells #[.string (⟨#[]⟩ : ByteArray), .string (⟨#[]⟩ : ByteArray), .int .i64 0] 26 (0, 0)) (by (with_reducible repeat (first | refine blk_drewN ?_ _ | refine blk_drew ?_ | refine blk_alloc ?_ _)); exact BK497.out) hb); have n2_ := Aside0.mk (below_step (by repeat (first | (with_reducible first | exact HB.out | apply below_alloc | apply pw_below_drewN | apply below_drew1 | refine below_set ?_ GE497.out) | exact HB.out)) hb); clear BK497; clear HB; have HO501 := n0_; have BK497 := n1_; have HB := n2_; clear n0_ n1_ n2_; (try clear hb); (try clear hb2); (try clear hk); (try clear hi); (try clear ho0); obtain ⟨Ao10, co10, eo10⟩ := Kd.R_slice HO501.out; subst eo10; have hcz11_0 : w9.cell? ⟨gb497, 0, none⟩ = some (.string (⟨#[]⟩ : ByteArray)) := (blk_cell BK497.out 0).trans rfl; have hcz11_1 : w9.cell? ⟨gb497, 1, none⟩ = some (.string (⟨#[]⟩ : ByteArray)) := (blk_cell BK497.out 1).trans rfl; have hcz11_2 : w9.cell? ⟨gb497, 2, none⟩ = some (.int .i64 0) := (blk_cell BK497.out 2).trans rfl; have hfz11_0 := blk_frozen BK497.out 0; have hfz11_1 := blk_frozen BK497.out 1; have hfz11_2 := blk_frozen BK497.out 2))
        refine bodyPost_ret (results_ctt rfl _ _ gb497 26 #[.string (subs a0 0 (t499 : Int).toNat), .string (⟨#[]⟩ : ByteArray), .int .i64 (t498.length : Int)] (0, 0) _ rfl (by (with_reducible repeat (first | refine blk_drewN ?_ _ | refine blk_drew ?_ | refine blk_alloc ?_ _)); refine blk_put (cs := #[.string (subs a0 0 (t499 : Int).toNat), .string (⟨#[]⟩ : ByteArray), .int .i64 0]) ?_ 2 _ rfl; (with_reducible repeat (first | refine blk_drewN ?_ _ | refine blk_drew ?_ | refine blk_alloc ?_ _)); refine blk_put (cs := #[.string (subs a0 0 (t499 : Int).toNat), .string (⟨#[]⟩ : ByteArray), .int .i64 0]) ?_ 1 _ rfl; (with_reducible repeat (first | refine blk_drewN ?_ _ | refine blk_drew ?_ | refine blk_alloc ?_ _)); refine blk_put (cs := #[.string (⟨#[]⟩ : ByteArray), .string (⟨#[]⟩ : ByteArray), .int .i64 0]) ?_ 0 _ rfl; (with_reducible repeat (first | refine blk_drewN ?_ _ | refine blk_drew ?_ | refine blk_alloc ?_ _)); exact BK497.out) Tryd.underlying26 rfl (by kernel_rfl)) rfl ?_
        exact ⟨by first | rfl | (simp [errW_none, errW_some] <;> rfl) | (simp [*, errW_none, errW_some] <;> rfl), by repeat (first | (with_reducible first | exact HB.out | apply below_alloc | apply pw_below_drewN | apply below_drew1 | refine below_set ?_ GE497.out) | exact HB.out)⟩
      · rw [if_neg c7] at H
        exact absurd H (by simp)
    · rw [if_neg c6] at H
      exact absurd H (by simp)

end

end Go.Proofs.YtokmidpeeejahaaDoor.G
