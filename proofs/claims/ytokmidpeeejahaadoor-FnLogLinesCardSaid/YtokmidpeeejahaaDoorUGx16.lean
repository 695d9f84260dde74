-- Written by a program of this session (wip/pd.py), which calls the kit's print; externals' contracts by hand.
import Derived.Test.YtokmidpeeejahaaDoorUGx0
import Derived.Test.YtokmidpeeejahaaDoorUGx1
import Derived.Test.YtokmidpeeejahaaDoorUGx6
import Derived.Test.YtokmidpeeejahaaDoorUGx7
import Derived.Test.YtokmidpeeejahaaDoorUGx13
import Derived.Test.YtokmidpeeejahaaDoorUGx14
import Derived.Test.YtokmidpeeejahaaDoorUGx15
namespace Go.Proofs.YtokmidpeeejahaaDoor.G
open Go.RowKit Go.Proofs.YtokmidpeeejahaaDoorW.PrintWords Go.Proofs.YtokmidpeeejahaaDoorW.PrintLast Go.Proofs.YtokmidpeeejahaaDoorW.PrintMore
attribute [local go_sem] max2_int min2_int max_two min_two max_three min_three max_four min_four   -- for this text's walks alone
set_option linter.unusedVariables false
set_option linter.unusedSimpArgs false

attribute [local go_sem high] eqA26
section
attribute [local go_sem high] run_add_cat run_slice_cat run_slice_cat_h run_slice_cat_l run_slice_cat_all
/-! ### laws_FnLogLines: function 8 -/
mutual
def laws_FnLogLines.j0 : Nat → Int → ByteArray → Bool → Bool → Bool → ByteArray → ByteArray → Int → Option (Bool)
  | 0, _, _, _, _, _, _, _, _ => none
  | k + 1, x3, x5, x6, x12, x76, x518000, x518001, x518002 => if x76 = true then (some false) else ((impl_RecoverLog.f k x5).bind fun bt524 => (if x6 = true then (if ((decide (bt524.2.2.2.1 > 0)) != (x3 == 0)) = true then (laws_FnLogLines.j1 k x5 x6 x12 true x518000 x518001 x518002) else (if x3 = 0 then (laws_FnLogLines.j1 k x5 x6 x12 (bt524.2.2.1 != 1) x518000 x518001 x518002) else (laws_FnLogLines.j1 k x5 x6 x12 false x518000 x518001 x518002))) else (laws_FnLogLines.j1 k x5 x6 x12 false x518000 x518001 x518002)))
def laws_FnLogLines.j1 : Nat → ByteArray → Bool → Bool → Bool → ByteArray → ByteArray → Int → Option (Bool)
  | 0, _, _, _, _, _, _, _ => none
  | k + 1, x5, x6, x12, x102, x518000, x518001, x518002 => if x102 = true then (some false) else ((impl_SyncLog.f k x518000 x518001 x518002).bind fun bt530 => (if x12 = true then (if bt530.2.2.2 = true then (if (bt530.1.toList == x518000.toList && (bt530.2.1.toList == x518001.toList && (bt530.2.2.1 == x518002))) = true then ((impl_IsValidLog.f k x518000 x518001 x518002).bind fun t535 => (if t535 = true then (if x6 = true then (laws_FnLogLines.j2 k true) else (laws_FnLogLines.j2 k (x5.toList == ([] : List UInt8)))) else (laws_FnLogLines.j2 k false))) else (laws_FnLogLines.j2 k false)) else (laws_FnLogLines.j2 k false)) else (laws_FnLogLines.j2 k true)))
def laws_FnLogLines.j2 : Nat → Bool → Option (Bool)
  | 0, _ => none
  | k + 1, x2 => some x2
end
def laws_FnLogLines.f (k : Nat) (l0 : List Int) : Option (Bool) := (laws_vBig.f l0).bind fun t502 => (if t502 = true then (some true) else ((spec_DrawEncodeRecord.f l0).bind fun bt503 => ((impl_EncodeRecord.f k bt503.1 bt503.2.1 bt503.2.2).bind fun bt507 => ((spec_EncodeRecord.f k bt503.1 bt503.2.1 bt503.2.2).bind fun bt509 => ((spec_DrawRecoverLog.f k l0).bind fun t511 => ((impl_RecoverLog.f k t511).bind fun bt512 => ((spec_RecoverLog.f k t511).bind fun bt518 => (if bt507.1.toList = bt509.1.toList then (if (bt507.2 != bt509.2) = true then (laws_FnLogLines.j0 k bt503.1 bt507.1 bt507.2 bt512.2.2.2.2 true bt512.1 bt512.2.1 bt512.2.2.1) else (if (!(bt512.1.toList == bt518.1.toList) || (!(bt512.2.1.toList == bt518.2.1.toList) || (!(bt512.2.2.1 == bt518.2.2.1)))) = true then (laws_FnLogLines.j0 k bt503.1 bt507.1 bt507.2 bt512.2.2.2.2 true bt512.1 bt512.2.1 bt512.2.2.1) else (if bt512.2.2.2.1 = bt518.2.2.2.1 then (laws_FnLogLines.j0 k bt503.1 bt507.1 bt507.2 bt512.2.2.2.2 (bt512.2.2.2.2 != bt518.2.2.2.2) bt512.1 bt512.2.1 bt512.2.2.1) else (laws_FnLogLines.j0 k bt503.1 bt507.1 bt507.2 bt512.2.2.2.2 true bt512.1 bt512.2.1 bt512.2.2.1)))) else (laws_FnLogLines.j0 k bt503.1 bt507.1 bt507.2 bt512.2.2.2.2 true bt512.1 bt512.2.1 bt512.2.2.1)))))))))
set_option maxHeartbeats 8000000 in
set_option maxRecDepth 100000 in
theorem laws_FnLogLines.calls (k : Nat) (A0 : Option Addr) (c0 : Nat) (l0 : List Int) (r : Bool) (w : World) (hr0 : Kd.C (Kd.int .u8) w A0 l0.length l0) (hc0 : l0.length ≤ c0) (hG : Gl w) (h : laws_FnLogLines.f k l0 = some r) :
    Calls Tryd.prog 8 #[.slice A0 l0.length c0] w fun e w' => e = .returned (.bool r) ∧ Below w.heap.size w w' := by
  have hu40 := Tryd.underlying40
  have hu26 := Tryd.underlying26
  have HR0 := Aside0.mk hr0
  have HC0 := Aside0.mk hc0
  clear hr0 hc0
  have HG := Aside0.mk hG
  clear hG
  have HB := Aside0.mk (Below.refl w.heap.size w)
  have H : ((laws_vBig.f l0).bind fun t502 => (if t502 = true then (some true) else ((spec_DrawEncodeRecord.f l0).bind fun bt503 => ((impl_EncodeRecord.f k bt503.1 bt503.2.1 bt503.2.2).bind fun bt507 => ((spec_EncodeRecord.f k bt503.1 bt503.2.1 bt503.2.2).bind fun bt509 => ((spec_DrawRecoverLog.f k l0).bind fun t511 => ((impl_RecoverLog.f k t511).bind fun bt512 => ((spec_RecoverLog.f k t511).bind fun bt518 => (if bt507.1.toList = bt509.1.toList then (if (bt507.2 != bt509.2) = true then (laws_FnLogLines.j0 k bt503.1 bt507.1 bt507.2 bt512.2.2.2.2 true bt512.1 bt512.2.1 bt512.2.2.1) else (if (!(bt512.1.toList == bt518.1.toList) || (!(bt512.2.1.toList == bt518.2.1.toList) || (!(bt512.2.2.1 == bt518.2.2.1)))) = true then (laws_FnLogLines.j0 k bt503.1 bt507.1 bt507.2 bt512.2.2.2.2 true bt512.1 bt512.2.1 bt512.2.2.1) else (if bt512.2.2.2.1 = bt518.2.2.2.1 then (laws_FnLogLines.j0 k bt503.1 bt507.1 bt507.2 bt512.2.2.2.2 (bt512.2.2.2.2 != bt518.2.2.2.2) bt512.1 bt512.2.1 bt512.2.2.1) else (laws_FnLogLines.j0 k bt503.1 bt507.1 bt507.2 bt512.2.2.2.2 true bt512.1 bt512.2.1 bt512.2.2.1)))) else (laws_FnLogLines.j0 k bt503.1 bt507.1 bt507.2 bt512.2.2.2.2 true bt512.1 bt512.2.1 bt512.2.2.1)))))))))) = some r := h
  clear h
  replace H := Option.bind_eq_some_iff.mp H
  obtain ⟨t502, A20, H⟩ := H
  replace H : (if t502 = true then (some true) else ((spec_DrawEncodeRecord.f l0).bind fun bt503 => ((impl_EncodeRecord.f k bt503.1 bt503.2.1 bt503.2.2).bind fun bt507 => ((spec_EncodeRecord.f k bt503.1 bt503.2.1 bt503.2.2).bind fun bt509 => ((spec_DrawRecoverLog.f k l0).bind fun t511 => ((impl_RecoverLog.f k t511).bind fun bt512 => ((spec_RecoverLog.f k t511).bind fun bt518 => (if bt507.1.toList = bt509.1.toList then (if (bt507.2 != bt509.2) = true then (laws_FnLogLines.j0 k bt503.1 bt507.1 bt507.2 bt512.2.2.2.2 true bt512.1 bt512.2.1 bt512.2.2.1) else (if (!(bt512.1.toList == bt518.1.toList) || (!(bt512.2.1.toList == bt518.2.1.toList) || (!(bt512.2.2.1 == bt518.2.2.1)))) = true then (laws_FnLogLines.j0 k bt503.1 bt507.1 bt507.2 bt512.2.2.2.2 true bt512.1 bt512.2.1 bt512.2.2.1) else (if bt512.2.2.2.1 = bt518.2.2.2.1 then (laws_FnLogLines.j0 k bt503.1 bt507.1 bt507.2 bt512.2.2.2.2 (bt512.2.2.2.2 != bt518.2.2.2.2) bt512.1 bt512.2.1 bt512.2.2.1) else (laws_FnLogLines.j0 k bt503.1 bt507.1 bt507.2 bt512.2.2.2.2 true bt512.1 bt512.2.1 bt512.2.2.1)))) else (laws_FnLogLines.j0 k bt503.1 bt507.1 bt507.2 bt512.2.2.2.2 true bt512.1 bt512.2.1 bt512.2.2.1))))))))) = some r := H
  have A2 := Aside0.mk A20
  clear A20
  by_cases c3 : t502 = true
  · subst c3
    have H1 : (some true) = some r := by rw [if_pos rfl] at H; exact H
    clear H
    have H := H1
    clear H1
    obtain rfl := Option.some.inj H
    go_enter Tryd.func8, Tryd.ntmps8
    go_wp2_with (first | ((with_reducible refine gate_callee (f := 29) rfl ?_); refine goesL_ (some 22) rfl rfl Tryd.func29 (by kernel_rfl) rfl #[.slice A0 l0.length c0] rfl (by (try simp only [List.map_toArray, List.map_cons, List.map_nil]); first | done | rfl | (simp only [List.length_drop, List.length_take]; rfl)) ?_; (with_reducible refine (laws_vBig.calls _ _ l0 true _ ?side1 ?side2 A2.out).mono ?_); (case side1 => repeat (first | exact HR0.out | (with_reducible refine Kd.C_alloc ?_ _) | (with_reducible refine Kd.C_drewN ?_ _) | (with_reducible refine Kd.C_drew ?_))); (case side2 => exact HC0.out); rintro e w' ⟨rfl, ⟨nd, rfl⟩⟩; refine ⟨_, rfl, ?_⟩))
    go_ret
    exact ⟨by first | rfl | (simp [errW_none, errW_some] <;> rfl) | (simp [*, errW_none, errW_some] <;> rfl), by repeat (first | (with_reducible first | exact HB.out | apply below_alloc | apply pw_below_drewN | apply below_drew1) | exact HB.out)⟩
  · replace c3 := Bool.eq_false_iff.mpr c3
    subst c3
    have H1 : ((spec_DrawEncodeRecord.f l0).bind fun bt503 => ((impl_EncodeRecord.f k bt503.1 bt503.2.1 bt503.2.2).bind fun bt507 => ((spec_EncodeRecord.f k bt503.1 bt503.2.1 bt503.2.2).bind fun bt509 => ((spec_DrawRecoverLog.f k l0).bind fun t511 => ((impl_RecoverLog.f k t511).bind fun bt512 => ((spec_RecoverLog.f k t511).bind fun bt518 => (if bt507.1.toList = bt509.1.toList then (if (bt507.2 != bt509.2) = true then (laws_FnLogLines.j0 k bt503.1 bt507.1 bt507.2 bt512.2.2.2.2 true bt512.1 bt512.2.1 bt512.2.2.1) else (if (!(bt512.1.toList == bt518.1.toList) || (!(bt512.2.1.toList == bt518.2.1.toList) || (!(bt512.2.2.1 == bt518.2.2.1)))) = true then (laws_FnLogLines.j0 k bt503.1 bt507.1 bt507.2 bt512.2.2.2.2 true bt512.1 bt512.2.1 bt512.2.2.1) else (if bt512.2.2.2.1 = bt518.2.2.2.1 then (laws_FnLogLines.j0 k bt503.1 bt507.1 bt507.2 bt512.2.2.2.2 (bt512.2.2.2.2 != bt518.2.2.2.2) bt512.1 bt512.2.1 bt512.2.2.1) else (laws_FnLogLines.j0 k bt503.1 bt507.1 bt507.2 bt512.2.2.2.2 true bt512.1 bt512.2.1 bt512.2.2.1)))) else (laws_FnLogLines.j0 k bt503.1 bt507.1 bt507.2 bt512.2.2.2.2 true bt512.1 bt512.2.1 bt512.2.2.1)))))))) = some r := by rw [if_neg (show ¬ (false = true) by decide)] at H; exact H
    clear H
    have H := H1
    clear H1
    replace H := Option.bind_eq_some_iff.mp H
    obtain ⟨⟨t503, t504, t505⟩, A40, H⟩ := H
    replace H : ((impl_EncodeRecord.f k t503 t504 t505).bind fun bt507 => ((spec_EncodeRecord.f k t503 t504 t505).bind fun bt509 => ((spec_DrawRecoverLog.f k l0).bind fun t511 => ((impl_RecoverLog.f k t511).bind fun bt512 => ((spec_RecoverLog.f k t511).bind fun bt518 => (if bt507.1.toList = bt509.1.toList then (if (bt507.2 != bt509.2) = true then (laws_FnLogLines.j0 k t503 bt507.1 bt507.2 bt512.2.2.2.2 true bt512.1 bt512.2.1 bt512.2.2.1) else (if (!(bt512.1.toList == bt518.1.toList) || (!(bt512.2.1.toList == bt518.2.1.toList) || (!(bt512.2.2.1 == bt518.2.2.1)))) = true then (laws_FnLogLines.j0 k t503 bt507.1 bt507.2 bt512.2.2.2.2 true bt512.1 bt512.2.1 bt512.2.2.1) else (if bt512.2.2.2.1 = bt518.2.2.2.1 then (laws_FnLogLines.j0 k t503 bt507.1 bt507.2 bt512.2.2.2.2 (bt512.2.2.2.2 != bt518.2.2.2.2) bt512.1 bt512.2.1 bt512.2.2.1) else (laws_FnLogLines.j0 k t503 bt507.1 bt507.2 bt512.2.2.2.2 true bt512.1 bt512.2.1 bt512.2.2.1)))) else (laws_FnLogLines.j0 k t503 bt507.1 bt507.2 bt512.2.2.2.2 true bt512.1 bt512.2.1 bt512.2.2.1))))))) = some r := H
    have A4 := Aside0.mk A40
    clear A40
    replace H := Option.bind_eq_some_iff.mp H
    obtain ⟨⟨t507, t508⟩, A50, H⟩ := H
    replace H : ((spec_EncodeRecord.f k t503 t504 t505).bind fun bt509 => ((spec_DrawRecoverLog.f k l0).bind fun t511 => ((impl_RecoverLog.f k t511).bind fun bt512 => ((spec_RecoverLog.f k t511).bind fun bt518 => (if t507.toList = bt509.1.toList then (if (t508 != bt509.2) = true then (laws_FnLogLines.j0 k t503 t507 t508 bt512.2.2.2.2 true bt512.1 bt512.2.1 bt512.2.2.1) else (if (!(bt512.1.toList == bt518.1.toList) || (!(bt512.2.1.toList == bt518.2.1.toList) || (!(bt512.2.2.1 == bt518.2.2.1)))) = true then (laws_FnLogLines.j0 k t503 t507 t508 bt512.2.2.2.2 true bt512.1 bt512.2.1 bt512.2.2.1) else (if bt512.2.2.2.1 = bt518.2.2.2.1 then (laws_FnLogLines.j0 k t503 t507 t508 bt512.2.2.2.2 (bt512.2.2.2.2 != bt518.2.2.2.2) bt512.1 bt512.2.1 bt512.2.2.1) else (laws_FnLogLines.j0 k t503 t507 t508 bt512.2.2.2.2 true bt512.1 bt512.2.1 bt512.2.2.1)))) else (laws_FnLogLines.j0 k t503 t507 t508 bt512.2.2.2.2 true bt512.1 bt512.2.1 bt512.2.2.1)))))) = some r := H
    have A5 := Aside0.mk A50
    clear A50
    replace H := Option.bind_eq_some_iff.mp H
    obtain ⟨⟨t509, t510⟩, A60, H⟩ := H
    replace H : ((spec_DrawRecoverLog.f k l0).bind fun t511 => ((impl_RecoverLog.f k t511).bind fun bt512 => ((spec_RecoverLog.f k t511).bind fun bt518 => (if t507.toList = t509.toList then (if (t508 != t510) = true then (laws_FnLogLines.j0 k t503 t507 t508 bt512.2.2.2.2 true bt512.1 bt512.2.1 bt512.2.2.1) else (if (!(bt512.1.toList == bt518.1.toList) || (!(bt512.2.1.toList == bt518.2.1.toList) || (!(bt512.2.2.1 == bt518.2.2.1)))) = true then (laws_FnLogLines.j0 k t503 t507 t508 bt512.2.2.2.2 true bt512.1 bt512.2.1 bt512.2.2.1) else (if bt512.2.2.2.1 = bt518.2.2.2.1 then (laws_FnLogLines.j0 k t503 t507 t508 bt512.2.2.2.2 (bt512.2.2.2.2 != bt518.2.2.2.2) bt512.1 bt512.2.1 bt512.2.2.1) else (laws_FnLogLines.j0 k t503 t507 t508 bt512.2.2.2.2 true bt512.1 bt512.2.1 bt512.2.2.1)))) else (laws_FnLogLines.j0 k t503 t507 t508 bt512.2.2.2.2 true bt512.1 bt512.2.1 bt512.2.2.1))))) = some r := H
    have A6 := Aside0.mk A60
    clear A60
    replace H := Option.bind_eq_some_iff.mp H
    obtain ⟨t511, A70, H⟩ := H
    replace H : ((impl_RecoverLog.f k t511).bind fun bt512 => ((spec_RecoverLog.f k t511).bind fun bt518 => (if t507.toList = t509.toList then (if (t508 != t510) = true then (laws_FnLogLines.j0 k t503 t507 t508 bt512.2.2.2.2 true bt512.1 bt512.2.1 bt512.2.2.1) else (if (!(bt512.1.toList == bt518.1.toList) || (!(bt512.2.1.toList == bt518.2.1.toList) || (!(bt512.2.2.1 == bt518.2.2.1)))) = true then (laws_FnLogLines.j0 k t503 t507 t508 bt512.2.2.2.2 true bt512.1 bt512.2.1 bt512.2.2.1) else (if bt512.2.2.2.1 = bt518.2.2.2.1 then (laws_FnLogLines.j0 k t503 t507 t508 bt512.2.2.2.2 (bt512.2.2.2.2 != bt518.2.2.2.2) bt512.1 bt512.2.1 bt512.2.2.1) else (laws_FnLogLines.j0 k t503 t507 t508 bt512.2.2.2.2 true bt512.1 bt512.2.1 bt512.2.2.1)))) else (laws_FnLogLines.j0 k t503 t507 t508 bt512.2.2.2.2 true bt512.1 bt512.2.1 bt512.2.2.1)))) = some r := H
    have A7 := Aside0.mk A70
    clear A70
    replace H := Option.bind_eq_some_iff.mp H
    obtain ⟨⟨t512, t513, t514, t515, t516⟩, A80, H⟩ := H
    replace H : ((spec_RecoverLog.f k t511).bind fun bt518 => (if t507.toList = t509.toList then (if (t508 != t510) = true then (laws_FnLogLines.j0 k t503 t507 t508 t516 true t512 t513 t514) else (if (!(t512.toList == bt518.1.toList) || (!(t513.toList == bt518.2.1.toList) || (!(t514 == bt518.2.2.1)))) = true then (laws_FnLogLines.j0 k t503 t507 t508 t516 true t512 t513 t514) else (if t515 = bt518.2.2.2.1 then (laws_FnLogLines.j0 k t503 t507 t508 t516 (t516 != bt518.2.2.2.2) t512 t513 t514) else (laws_FnLogLines.j0 k t503 t507 t508 t516 true t512 t513 t514)))) else (laws_FnLogLines.j0 k t503 t507 t508 t516 true t512 t513 t514))) = some r := H
    have A8 := Aside0.mk A80
    clear A80
    replace H := Option.bind_eq_some_iff.mp H
    obtain ⟨⟨t518, t519, t520, t521, t522⟩, A90, H⟩ := H
    replace H : (if t507.toList = t509.toList then (if (t508 != t510) = true then (laws_FnLogLines.j0 k t503 t507 t508 t516 true t512 t513 t514) else (if (!(t512.toList == t518.toList) || (!(t513.toList == t519.toList) || (!(t514 == t520)))) = true then (laws_FnLogLines.j0 k t503 t507 t508 t516 true t512 t513 t514) else (if t515 = t521 then (laws_FnLogLines.j0 k t503 t507 t508 t516 (t516 != t522) t512 t513 t514) else (laws_FnLogLines.j0 k t503 t507 t508 t516 true t512 t513 t514)))) else (laws_FnLogLines.j0 k t503 t507 t508 t516 true t512 t513 t514)) = some r := H
    have A9 := Aside0.mk A90
    clear A90
    have HC10 := Aside0.mk H
    clear H
    go_enter Tryd.func8, Tryd.ntmps8
    go_upto_region 9 with (first | ((with_reducible refine gate_callee (f := 29) rfl ?_); refine goesL_ (some 22) rfl rfl Tryd.func29 (by kernel_rfl) rfl #[.slice A0 l0.length c0] rfl (by (try simp only [List.map_toArray, List.map_cons, List.map_nil]); first | done | rfl | (simp only [List.length_drop, List.length_take]; rfl)) ?_; (with_reducible refine (laws_vBig.calls _ _ l0 false _ ?side1 ?side2 A2.out).mono ?_); (case side1 => repeat (first | exact HR0.out | (with_reducible refine Kd.C_alloc ?_ _) | (with_reducible refine Kd.C_drewN ?_ _) | (with_reducible refine Kd.C_drew ?_))); (case side2 => exact HC0.out); rintro e w' ⟨rfl, ⟨nd, rfl⟩⟩; refine ⟨_, rfl, ?_⟩) | ((with_reducible refine gate_callee (f := 30) rfl ?_); refine goesL_ (some 25) rfl rfl Tryd.func30 (by kernel_rfl) rfl #[.slice A0 l0.length c0] rfl (by (try simp only [List.map_toArray, List.map_cons, List.map_nil]); first | done | rfl | (simp only [List.length_drop, List.length_take]; rfl)) ?_; (with_reducible refine (spec_DrawEncodeRecord.calls _ _ l0 t503 t504 t505 _ ?side1 ?side2 A4.out).mono ?_); (case side1 => repeat (first | exact HR0.out | (with_reducible refine Kd.C_alloc ?_ _) | (with_reducible refine Kd.C_drewN ?_ _) | (with_reducible refine Kd.C_drew ?_))); (case side2 => exact HC0.out); rintro e w11 ⟨rfl, hb⟩; refine ⟨_, rfl, ?_⟩; have n0_ := Aside0.mk (below_step (by repeat (first | (with_reducible first | exact HB.out | apply below_alloc | apply pw_below_drewN | apply below_drew1) | exact HB.out)) hb); clear HB; have HB := n0_; clear n0_; (try clear hb); (try clear hb2); (try clear hk); (try clear hi)) | ((with_reducible refine gate_dst (N := 4) rfl ?_); refine box_event ?hg (N := 4) ?hd (cs := #[.string (⟨#[]⟩ : ByteArray), .string (⟨#[]⟩ : ByteArray)]) (t := 40) ?hr ?_; (case hd => rfl); (case hg => rfl); (case hr => first | (go_simp; done) | (go_simp; rfl)); intro gb506 hg w12 hbox hb; have n0_ := Aside0.mk (below_step (by repeat (first | (with_reducible first | exact HB.out | apply below_alloc | apply pw_below_drewN | apply below_drew1) | exact HB.out)) hb); have n1_ := Aside0.mk (hbox); have n2_ := Aside0.mk ((by rw [hg]; exact (below_size (by repeat (first | (with_reducible first | exact HB.out | apply below_alloc | apply pw_below_drewN | apply below_drew1) | exact HB.out))) : w.heap.size ≤ gb506)); have n3_ := Aside0.mk ((by rw [hg]; exact (below_size (by repeat (first | (with_reducible first | exact HB.out | apply below_alloc | apply pw_below_drewN | apply below_drew1) | exact HB.out))) : w.heap.size ≤ gb506)); clear HB; have HB := n0_; have BK506 := n1_; have GW506 := n2_; have GE506 := n3_; clear n0_ n1_ n2_ n3_; clear hb hbox hg; have hcz13_0 : w12.cell? ⟨gb506, 0, none⟩ = some (.string (⟨#[]⟩ : ByteArray)) := (blk_cell BK506.out 0).trans rfl; have hcz13_1 : w12.cell? ⟨gb506, 1, none⟩ = some (.string (⟨#[]⟩ : ByteArray)) := (blk_cell BK506.out 1).trans rfl; have hfz13_0 := blk_frozen BK506.out 0; have hfz13_1 := blk_frozen BK506.out 1) | ((with_reducible refine gate_callee (f := 31) rfl ?_); refine goesL_ (some 31) rfl rfl Tryd.func31 (by kernel_rfl) rfl #[.int .i64 t503, .agg #[.string t504, .string t505]] rfl (by (try simp only [List.map_toArray, List.map_cons, List.map_nil]); first | done | rfl | (simp only [List.length_drop, List.length_take]; rfl)) ?_; (with_reducible refine (impl_EncodeRecord.calls k t503 t504 t505 t507 t508 _ ?side1 A5.out).mono ?_); (case side1 => exact Gl.below HG.out (by repeat (first | (with_reducible first | exact HB.out | apply below_alloc | apply pw_below_drewN | apply below_drew1 | refine below_set ?_ GE506.out) | exact HB.out))); rintro e w14 ⟨rfl, hb⟩; refine ⟨_, rfl, ?_⟩; have n0_ := Aside0.mk (blk_below (g := gb506) (o := .cells #[.string t504, .string t505] 40 (0, 0)) (by (with_reducible repeat (first | refine blk_drewN ?_ _ | refine blk_drew ?_ | refine blk_alloc ?_ _)); refine blk_put (cs := #[.string t504, .string (⟨#[]⟩ : ByteArray)]) ?_ 1 _ rfl; (with_reducible repeat (first | refine blk_drewN ?_ _ | refine blk_drew ?_ | refine blk_alloc ?_ _)); refine blk_put (cs := #[.string (⟨#[]⟩ : ByteArray), .string (⟨#[]⟩ : ByteArray)]) ?_ 0 _ rfl; (with_reducible repeat (first | refine blk_drewN ?_ _ | refine blk_drew ?_ | refine blk_alloc ?_ _)); exact BK506.out) hb); have n1_ := Aside0.mk (below_step (by repeat (first | (with_reducible first | exact HB.out | apply below_alloc | apply pw_below_drewN | apply below_drew1 | refine below_set ?_ GE506.out) | exact HB.out)) hb); clear BK506; clear HB; have BK506 := n0_; have HB := n1_; clear n0_ n1_; (try clear hb); (try clear hb2); (try clear hk); (try clear hi); have hcz15_0 : w14.cell? ⟨gb506, 0, none⟩ = some (.string t504) := (blk_cell BK506.out 0).trans rfl; have hcz15_1 : w14.cell? ⟨gb506, 1, none⟩ = some (.string t505) := (blk_cell BK506.out 1).trans rfl; have hfz15_0 := blk_frozen BK506.out 0; have hfz15_1 := blk_frozen BK506.out 1) | ((with_reducible refine gate_callee (f := 32) rfl ?_); refine goesL_ (some 37) rfl rfl Tryd.func32 (by kernel_rfl) rfl #[.int .i64 t503, .agg #[.string t504, .string t505]] rfl (by (try simp only [List.map_toArray, List.map_cons, List.map_nil]); first | done | rfl | (simp only [List.length_drop, List.length_take]; rfl)) ?_; (with_reducible refine (spec_EncodeRecord.calls k t503 t504 t505 t509 t510 _ A6.out).mono ?_); rintro e w16 ⟨rfl, hb⟩; refine ⟨_, rfl, ?_⟩; have n0_ := Aside0.mk (blk_below (g := gb506) (o := .cells #[.string t504, .string t505] 40 (0, 0)) (by (with_reducible repeat (first | refine blk_drewN ?_ _ | refine blk_drew ?_ | refine blk_alloc ?_ _)); exact BK506.out) hb); have n1_ := Aside0.mk (below_step (by repeat (first | (with_reducible first | exact HB.out | apply below_alloc | apply pw_below_drewN | apply below_drew1 | refine below_set ?_ GE506.out) | exact HB.out)) hb); clear BK506; clear HB; have BK506 := n0_; have HB := n1_; clear n0_ n1_; (try clear hb); (try clear hb2); (try clear hk); (try clear hi)) | ((with_reducible refine gate_callee (f := 33) rfl ?_); refine goesL_ (some 41) rfl rfl Tryd.func33 (by kernel_rfl) rfl #[.slice A0 l0.length c0] rfl (by (try simp only [List.map_toArray, List.map_cons, List.map_nil]); first | done | rfl | (simp only [List.length_drop, List.length_take]; rfl)) ?_; (with_reducible refine (spec_DrawRecoverLog.calls k _ _ l0 t511 _ ?side1 ?side2 A7.out).mono ?_); (case side1 => repeat (first | exact (Kd.C_below HR0.out HB.out) | (with_reducible refine Kd.C_alloc ?_ _) | (with_reducible refine Kd.C_drewN ?_ _) | (with_reducible refine Kd.C_drew ?_))); (case side2 => exact HC0.out); rintro e w17 ⟨rfl, hb⟩; refine ⟨_, rfl, ?_⟩; have n0_ := Aside0.mk (blk_below (g := gb506) (o := .cells #[.string t504, .string t505] 40 (0, 0)) (by (with_reducible repeat (first | refine blk_drewN ?_ _ | refine blk_drew ?_ | refine blk_alloc ?_ _)); exact BK506.out) hb); have n1_ := Aside0.mk (below_step (by repeat (first | (with_reducible first | exact HB.out | apply below_alloc | apply pw_below_drewN | apply below_drew1 | refine below_set ?_ GE506.out) | exact HB.out)) hb); clear BK506; clear HB; have BK506 := n0_; have HB := n1_; clear n0_ n1_; (try clear hb); (try clear hb2); (try clear hk); (try clear hi)) | ((with_reducible refine gate_callee (f := 34) rfl ?_); refine goesL_ (some 44) rfl rfl Tryd.func34 (by kernel_rfl) rfl #[.string t511] rfl (by (try simp only [List.map_toArray, List.map_cons, List.map_nil]); first | done | rfl | (simp only [List.length_drop, List.length_take]; rfl)) ?_; (with_reducible refine (impl_RecoverLog.calls k t511 t512 t513 t514 t515 t516 _ ?side1 A8.out).mono ?_); (case side1 => exact Gl.below HG.out (by repeat (first | (with_reducible first | exact HB.out | apply below_alloc | apply pw_below_drewN | apply below_drew1 | refine below_set ?_ GE506.out) | exact HB.out))); rintro e w18 ⟨rfl, hb⟩; refine ⟨_, rfl, ?_⟩; have n0_ := Aside0.mk (blk_below (g := gb506) (o := .cells #[.string t504, .string t505] 40 (0, 0)) (by (with_reducible repeat (first | refine blk_drewN ?_ _ | refine blk_drew ?_ | refine blk_alloc ?_ _)); exact BK506.out) hb); have n1_ := Aside0.mk (below_step (by repeat (first | (with_reducible first | exact HB.out | apply below_alloc | apply pw_below_drewN | apply below_drew1 | refine below_set ?_ GE506.out) | exact HB.out)) hb); clear BK506; clear HB; have BK506 := n0_; have HB := n1_; clear n0_ n1_; (try clear hb); (try clear hb2); (try clear hk); (try clear hi)) | ((with_reducible refine gate_dst (N := 10) rfl ?_); refine box_event ?hg (N := 10) ?hd (cs := #[.string (⟨#[]⟩ : ByteArray), .string (⟨#[]⟩ : ByteArray), .int .i64 0]) (t := 26) ?hr ?_; (case hd => rfl); (case hg => rfl); (case hr => first | (go_simp; done) | (go_simp; rfl)); intro gb517 hg w19 hbox hb; have n0_ := Aside0.mk (blk_below (g := gb506) (o := .cells #[.string t504, .string t505] 40 (0, 0)) (by (with_reducible repeat (first | refine blk_drewN ?_ _ | refine blk_drew ?_ | refine blk_alloc ?_ _)); exact BK506.out) hb); have n1_ := Aside0.mk (below_step (by repeat (first | (with_reducible first | exact HB.out | apply below_alloc | apply pw_below_drewN | apply below_drew1 | refine below_set ?_ GE506.out) | exact HB.out)) hb); have n2_ := Aside0.mk (hbox); have n3_ := Aside0.mk ((by rw [hg]; exact (below_size (by repeat (first | (with_reducible first | exact HB.out | apply below_alloc | apply pw_below_drewN | apply below_drew1 | refine below_set ?_ GE506.out) | exact HB.out))) : w.heap.size ≤ gb517)); have n4_ := Aside0.mk ((by rw [hg]; exact (below_size (by repeat (first | (with_reducible first | exact HB.out | apply below_alloc | apply pw_below_drewN | apply below_drew1 | refine below_set ?_ GE506.out) | exact HB.out))) : w.heap.size ≤ gb517)); have n5_ := Aside0.mk ((by rw [hg]; exact Nat.ne_of_lt (blk_lt (g := gb506) (o := .cells #[.string t504, .string t505] 40 (0, 0)) (by (with_reducible repeat (first | refine blk_drewN ?_ _ | refine blk_drew ?_ | refine blk_alloc ?_ _)); exact BK506.out)) : gb506 ≠ gb517)); have n6_ := Aside0.mk ((by rw [hg]; exact Nat.ne_of_gt (blk_lt (g := gb506) (o := .cells #[.string t504, .string t505] 40 (0, 0)) (by (with_reducible repeat (first | refine blk_drewN ?_ _ | refine blk_drew ?_ | refine blk_alloc ?_ _)); exact BK506.out)) : gb517 ≠ gb506)); clear BK506; clear HB; have BK506 := n0_; have HB := n1_; have BK517 := n2_; have GW517 := n3_; have GE517 := n4_; have NB506_517 := n5_; have NB517_506 := n6_; clear n0_ n1_ n2_ n3_ n4_ n5_ n6_; clear hb hbox hg; have hnb20 := NB517_506.out; have hnc20 := NB506_517.out; have hcz21_0 : w19.cell? ⟨gb517, 0, none⟩ = some (.string (⟨#[]⟩ : ByteArray)) := (blk_cell BK517.out 0).trans rfl; have hcz21_1 : w19.cell? ⟨gb517, 1, none⟩ = some (.string (⟨#[]⟩ : ByteArray)) := (blk_cell BK517.out 1).trans rfl; have hcz21_2 : w19.cell? ⟨gb517, 2, none⟩ = some (.int .i64 0) := (blk_cell BK517.out 2).trans rfl; have hfz21_0 := blk_frozen BK517.out 0; have hfz21_1 := blk_frozen BK517.out 1; have hfz21_2 := blk_frozen BK517.out 2) | ((with_reducible refine gate_callee (f := 35) rfl ?_); refine goesL_ (some 50) rfl rfl Tryd.func35 (by kernel_rfl) rfl #[.string t511] rfl (by (try simp only [List.map_toArray, List.map_cons, List.map_nil]); first | done | rfl | (simp only [List.length_drop, List.length_take]; rfl)) ?_; (with_reducible refine (spec_RecoverLog.calls k t511 t518 t519 t520 t521 t522 _ A9.out).mono ?_); rintro e w22 ⟨rfl, hb⟩; refine ⟨_, rfl, ?_⟩; have n0_ := Aside0.mk (blk_below (g := gb506) (o := .cells #[.string t504, .string t505] 40 (0, 0)) (by (with_reducible repeat (first | refine blk_drewN ?_ _ | refine blk_drew ?_ | refine blk_alloc ?_ _)); refine blk_far ?_ NB506_517.out _; (with_reducible repeat (first | refine blk_drewN ?_ _ | refine blk_drew ?_ | refine blk_alloc ?_ _)); refine blk_far ?_ NB506_517.out _; (with_reducible repeat (first | refine blk_drewN ?_ _ | refine blk_drew ?_ | refine blk_alloc ?_ _)); refine blk_far ?_ NB506_517.out _; (with_reducible repeat (first | refine blk_drewN ?_ _ | refine blk_drew ?_ | refine blk_alloc ?_ _)); exact BK506.out) hb); have n1_ := Aside0.mk (blk_below (g := gb517) (o := .cells #[.string t512, .string t513, .int .i64 t514] 26 (0, 0)) (by (with_reducible repeat (first | refine blk_drewN ?_ _ | refine blk_drew ?_ | refine blk_alloc ?_ _)); refine blk_put (cs := #[.string t512, .string t513, .int .i64 0]) ?_ 2 _ rfl; (with_reducible repeat (first | refine blk_drewN ?_ _ | refine blk_drew ?_ | refine blk_alloc ?_ _)); refine blk_put (cs := #[.string t512, .string (⟨#[]⟩ : ByteArray), .int .i64 0]) ?_ 1 _ rfl; (with_reducible repeat (first | refine blk_drewN ?_ _ | refine blk_drew ?_ | refine blk_alloc ?_ _)); refine blk_put (cs := #[.string (⟨#[]⟩ : ByteArray), .string (⟨#[]⟩ : ByteArray), .int .i64 0]) ?_ 0 _ rfl; (with_reducible repeat (first | refine blk_drewN ?_ _ | refine blk_drew ?_ | refine blk_alloc ?_ _)); exact BK517.out) hb); have n2_ := Aside0.mk (below_step (by repeat (first | (with_reducible first | exact HB.out | apply below_alloc | apply pw_below_drewN | apply below_drew1 | refine below_set ?_ GE506.out | refine below_set ?_ GE517.out) | exact HB.out)) hb); clear BK506; clear BK517; clear HB; have BK506 := n0_; have BK517 := n1_; have HB := n2_; clear n0_ n1_ n2_; (try clear hb); (try clear hb2); (try clear hk); (try clear hi)) | ((with_reducible refine gate_dst (N := 13) rfl ?_); refine box_event ?hg (N := 13) ?hd (cs := #[.string (⟨#[]⟩ : ByteArray), .string (⟨#[]⟩ : ByteArray), .int .i64 0]) (t := 26) ?hr ?_; (case hd => rfl); (case hg => rfl); (case hr => first | (go_simp; done) | (go_simp; rfl)); intro gb523 hg w23 hbox hb; have n0_ := Aside0.mk (blk_below (g := gb506) (o := .cells #[.string t504, .string t505] 40 (0, 0)) (by (with_reducible repeat (first | refine blk_drewN ?_ _ | refine blk_drew ?_ | refine blk_alloc ?_ _)); exact BK506.out) hb); have n1_ := Aside0.mk (blk_below (g := gb517) (o := .cells #[.string t512, .string t513, .int .i64 t514] 26 (0, 0)) (by (with_reducible repeat (first | refine blk_drewN ?_ _ | refine blk_drew ?_ | refine blk_alloc ?_ _)); exact BK517.out) hb); have n2_ := Aside0.mk (below_step (by repeat (first | (with_reducible first | exact HB.out | apply below_alloc | apply pw_below_drewN | apply below_drew1 | refine below_set ?_ GE506.out | refine below_set ?_ GE517.out) | exact HB.out)) hb); have n3_ := Aside0.mk (hbox); have n4_ := Aside0.mk ((by rw [hg]; exact (below_size (by repeat (first | (with_reducible first | exact HB.out | apply below_alloc | apply pw_below_drewN | apply below_drew1 | refine below_set ?_ GE506.out | refine below_set ?_ GE517.out) | exact HB.out))) : w.heap.size ≤ gb523)); have n5_ := Aside0.mk ((by rw [hg]; exact (below_size (by repeat (first | (with_reducible first | exact HB.out | apply below_alloc | apply pw_below_drewN | apply below_drew1 | refine below_set ?_ GE506.out | refine below_set ?_ GE517.out) | exact HB.out))) : w.heap.size ≤ gb523)); have n6_ := Aside0.mk ((by rw [hg]; exact Nat.ne_of_lt (blk_lt (g := gb506) (o := .cells #[.string t504, .string t505] 40 (0, 0)) (by (with_reducible repeat (first | refine blk_drewN ?_ _ | refine blk_drew ?_ | refine blk_alloc ?_ _)); exact BK506.out)) : gb506 ≠ gb523)); have n7_ := Aside0.mk ((by rw [hg]; exact Nat.ne_of_gt (blk_lt (g := gb506) (o := .cells #[.string t504, .string t505] 40 (0, 0)) (by (with_reducible repeat (first | refine blk_drewN ?_ _ | refine blk_drew ?_ | refine blk_alloc ?_ _)); exact BK506.out)) : gb523 ≠ gb506)); have n8_ := Aside0.mk ((by rw [hg]; exact Nat.ne_of_lt (blk_lt (g := gb517) (o := .cells #[.string t512, .string t513, .int .i64 t514] 26 (0, 0)) (by (with_reducible repeat (first | refine blk_drewN ?_ _ | refine blk_drew ?_ | refine blk_alloc ?_ _)); exact BK517.out)) : gb517 ≠ gb523)); have n9_ := Aside0.mk ((by rw [hg]; exact Nat.ne_of_gt (blk_lt (g := gb517) (o := .cells #[.string t512, .string t513, .int .i64 t514] 26 (0, 0)) (by (with_reducible repeat (first | refine blk_drewN ?_ _ | refine blk_drew ?_ | refine blk_alloc ?_ _)); exact BK517.out)) : gb523 ≠ gb517)); clear BK506; clear BK517; clear HB; have BK506 := n0_; have BK517 := n1_; have HB := n2_; have BK523 := n3_; have GW523 := n4_; have GE523 := n5_; have NB506_523 := n6_; have NB523_506 := n7_; have NB517_523 := n8_; have NB523_517 := n9_; clear n0_ n1_ n2_ n3_ n4_ n5_ n6_ n7_ n8_ n9_; clear hb hbox hg; have hnb24 := NB523_506.out; have hnc24 := NB506_523.out; have hnb25 := NB523_517.out; have hnc25 := NB517_523.out; have hcz26_0 : w23.cell? ⟨gb523, 0, none⟩ = some (.string (⟨#[]⟩ : ByteArray)) := (blk_cell BK523.out 0).trans rfl; have hcz26_1 : w23.cell? ⟨gb523, 1, none⟩ = some (.string (⟨#[]⟩ : ByteArray)) := (blk_cell BK523.out 1).trans rfl; have hcz26_2 : w23.cell? ⟨gb523, 2, none⟩ = some (.int .i64 0) := (blk_cell BK523.out 2).trans rfl; have hfz26_0 := blk_frozen BK523.out 0; have hfz26_1 := blk_frozen BK523.out 1; have hfz26_2 := blk_frozen BK523.out 2))
    (try simp only [Act.put, List.setIfInBounds_toArray, List.set_cons_zero, List.set_cons_succ])
    go_cut [76] (fun v76 wc => ∃ (kq : Nat) (x76_9 : Bool), v76 = .bool x76_9 ∧ Aside0 (laws_FnLogLines.j0 kq t503 t507 t508 t516 x76_9 t512 t513 t514 = some r) ∧ Aside0 (kq ≤ k) ∧ Aside0 (wc.heap[gb506]? = some (.cells #[.string t504, .string t505] 40 (0, 0))) ∧ Aside0 (wc.heap[gb517]? = some (.cells #[.string t512, .string t513, .int .i64 t514] 26 (0, 0))) ∧ Aside0 (wc.heap[gb523]? = some (.cells #[.string t518, .string t519, .int .i64 t520] 26 (0, 0))) ∧ Aside0 (Below w.heap.size w wc))
    case first =>
      have H := HC10.out
      clear HC10
      by_cases c27 : t507.toList = t509.toList
      · rw [if_pos c27] at H
        have c27b0 : (t507.toList == t509.toList) = true := beq_iff_eq.mpr c27
        have c27b1 : (t507.toList != t509.toList) = false := bne_eq_false_iff_eq.mpr c27
        clear c27
        (first | rw [c27b0] | (simp only [i64_w, i32_w]; rw [c27b0]) | skip)
        by_cases c28 : (t508 != t510) = true
        · rw [if_pos c28] at H
          have c28b0 : (t508 != t510) = true := c28
          (try (have c28b1 : decide (t508 = t510) = false := by simpa using c28))
          (try (have c28b2 : (t508 == t510) = false := by simpa using c28))
          (try (have c28b3 : ¬ (t508 = t510) := by simpa using c28))
          clear c28
          have H' := Aside0.mk H
          clear H
          go_wp2
          go_meet
          case rel => exact ⟨_, (true), (by first | rfl | (simp; done) | (simp [*]; done)), H', ⟨by first | omega | exact Nat.le_refl _⟩, ⟨by (with_reducible repeat (first | refine blk_drewN ?_ _ | refine blk_drew ?_ | refine blk_alloc ?_ _)); refine blk_far ?_ NB506_523.out _; (with_reducible repeat (first | refine blk_drewN ?_ _ | refine blk_drew ?_ | refine blk_alloc ?_ _)); refine blk_far ?_ NB506_523.out _; (with_reducible repeat (first | refine blk_drewN ?_ _ | refine blk_drew ?_ | refine blk_alloc ?_ _)); refine blk_far ?_ NB506_523.out _; (with_reducible repeat (first | refine blk_drewN ?_ _ | refine blk_drew ?_ | refine blk_alloc ?_ _)); exact BK506.out⟩, ⟨by (with_reducible repeat (first | refine blk_drewN ?_ _ | refine blk_drew ?_ | refine blk_alloc ?_ _)); refine blk_far ?_ NB517_523.out _; (with_reducible repeat (first | refine blk_drewN ?_ _ | refine blk_drew ?_ | refine blk_alloc ?_ _)); refine blk_far ?_ NB517_523.out _; (with_reducible repeat (first | refine blk_drewN ?_ _ | refine blk_drew ?_ | refine blk_alloc ?_ _)); refine blk_far ?_ NB517_523.out _; (with_reducible repeat (first | refine blk_drewN ?_ _ | refine blk_drew ?_ | refine blk_alloc ?_ _)); exact BK517.out⟩, ⟨by (with_reducible repeat (first | refine blk_drewN ?_ _ | refine blk_drew ?_ | refine blk_alloc ?_ _)); refine blk_put (cs := #[.string t518, .string t519, .int .i64 0]) ?_ 2 _ rfl; (with_reducible repeat (first | refine blk_drewN ?_ _ | refine blk_drew ?_ | refine blk_alloc ?_ _)); refine blk_put (cs := #[.string t518, .string (⟨#[]⟩ : ByteArray), .int .i64 0]) ?_ 1 _ rfl; (with_reducible repeat (first | refine blk_drewN ?_ _ | refine blk_drew ?_ | refine blk_alloc ?_ _)); refine blk_put (cs := #[.string (⟨#[]⟩ : ByteArray), .string (⟨#[]⟩ : ByteArray), .int .i64 0]) ?_ 0 _ rfl; (with_reducible repeat (first | refine blk_drewN ?_ _ | refine blk_drew ?_ | refine blk_alloc ?_ _)); exact BK523.out⟩, ⟨by repeat (first | (with_reducible first | exact HB.out | apply below_alloc | apply pw_below_drewN | apply below_drew1 | refine below_set ?_ GE506.out | refine below_set ?_ GE517.out | refine below_set ?_ GE523.out) | exact HB.out)⟩⟩
        · rw [if_neg c28] at H
          have c28b0 : (t508 != t510) = false := by simpa using c28
          (try (have c28b1 : decide (t508 = t510) = true := by simpa using c28))
          (try (have c28b2 : (t508 == t510) = true := by simpa using c28))
          clear c28
          by_cases c29 : (!(t512.toList == t518.toList) || (!(t513.toList == t519.toList) || (!(t514 == t520)))) = true
          · rw [if_pos c29] at H
            have c29b0 : (!(t512.toList == t518.toList) || (!(t513.toList == t519.toList) || (!(t514 == t520)))) = true := c29
            clear c29
            have H' := Aside0.mk H
            clear H
            have hnb30 := NB517_506.out
            have hnc30 := NB506_517.out
            have hnb31 := NB517_523.out
            have hnc31 := NB523_517.out
            have hcz32_0 : w23.cell? ⟨gb517, 0, none⟩ = some (.string t512) := (blk_cell BK517.out 0).trans rfl
            have hcz32_1 : w23.cell? ⟨gb517, 1, none⟩ = some (.string t513) := (blk_cell BK517.out 1).trans rfl
            have hcz32_2 : w23.cell? ⟨gb517, 2, none⟩ = some (.int .i64 t514) := (blk_cell BK517.out 2).trans rfl
            have hfz32_0 := blk_frozen BK517.out 0
            have hfz32_1 := blk_frozen BK517.out 1
            have hfz32_2 := blk_frozen BK517.out 2
            have hnb33 := NB523_506.out
            have hnc33 := NB506_523.out
            have hcz34_0 : w23.cell? ⟨gb523, 0, none⟩ = some (.string (⟨#[]⟩ : ByteArray)) := (blk_cell BK523.out 0).trans rfl
            have hcz34_1 : w23.cell? ⟨gb523, 1, none⟩ = some (.string (⟨#[]⟩ : ByteArray)) := (blk_cell BK523.out 1).trans rfl
            have hcz34_2 : w23.cell? ⟨gb523, 2, none⟩ = some (.int .i64 0) := (blk_cell BK523.out 2).trans rfl
            have hfz34_0 := blk_frozen BK523.out 0
            have hfz34_1 := blk_frozen BK523.out 1
            have hfz34_2 := blk_frozen BK523.out 2
            go_wp2
            go_meet
            case rel => exact ⟨_, (true), (by first | rfl | (simp; done) | (simp [*]; done)), H', ⟨by first | omega | exact Nat.le_refl _⟩, ⟨by (with_reducible repeat (first | refine blk_drewN ?_ _ | refine blk_drew ?_ | refine blk_alloc ?_ _)); refine blk_far ?_ NB506_523.out _; (with_reducible repeat (first | refine blk_drewN ?_ _ | refine blk_drew ?_ | refine blk_alloc ?_ _)); refine blk_far ?_ NB506_523.out _; (with_reducible repeat (first | refine blk_drewN ?_ _ | refine blk_drew ?_ | refine blk_alloc ?_ _)); refine blk_far ?_ NB506_523.out _; (with_reducible repeat (first | refine blk_drewN ?_ _ | refine blk_drew ?_ | refine blk_alloc ?_ _)); exact BK506.out⟩, ⟨by (with_reducible repeat (first | refine blk_drewN ?_ _ | refine blk_drew ?_ | refine blk_alloc ?_ _)); refine blk_far ?_ NB517_523.out _; (with_reducible repeat (first | refine blk_drewN ?_ _ | refine blk_drew ?_ | refine blk_alloc ?_ _)); refine blk_far ?_ NB517_523.out _; (with_reducible repeat (first | refine blk_drewN ?_ _ | refine blk_drew ?_ | refine blk_alloc ?_ _)); refine blk_far ?_ NB517_523.out _; (with_reducible repeat (first | refine blk_drewN ?_ _ | refine blk_drew ?_ | refine blk_alloc ?_ _)); exact BK517.out⟩, ⟨by (with_reducible repeat (first | refine blk_drewN ?_ _ | refine blk_drew ?_ | refine blk_alloc ?_ _)); refine blk_put (cs := #[.string t518, .string t519, .int .i64 0]) ?_ 2 _ rfl; (with_reducible repeat (first | refine blk_drewN ?_ _ | refine blk_drew ?_ | refine blk_alloc ?_ _)); refine blk_put (cs := #[.string t518, .string (⟨#[]⟩ : ByteArray), .int .i64 0]) ?_ 1 _ rfl; (with_reducible repeat (first | refine blk_drewN ?_ _ | refine blk_drew ?_ | refine blk_alloc ?_ _)); refine blk_put (cs := #[.string (⟨#[]⟩ : ByteArray), .string (⟨#[]⟩ : ByteArray), .int .i64 0]) ?_ 0 _ rfl; (with_reducible repeat (first | refine blk_drewN ?_ _ | refine blk_drew ?_ | refine blk_alloc ?_ _)); exact BK523.out⟩, ⟨by repeat (first | (with_reducible first | exact HB.out | apply below_alloc | apply pw_below_drewN | apply below_drew1 | refine below_set ?_ GE506.out | refine below_set ?_ GE517.out | refine below_set ?_ GE523.out) | exact HB.out)⟩⟩
          · rw [if_neg c29] at H
            have c29b0 : (!(t512.toList == t518.toList) || (!(t513.toList == t519.toList) || (!(t514 == t520)))) = false := by simpa using c29
            clear c29
            by_cases c35 : t515 = t521
            · rw [if_pos c35] at H
              have c35b0 : (t515 == t521) = true := beq_iff_eq.mpr c35
              have c35b1 : (t515 != t521) = false := bne_eq_false_iff_eq.mpr c35
              clear c35
              have H' := Aside0.mk H
              clear H
              have hnb36 := NB517_506.out
              have hnc36 := NB506_517.out
              have hnb37 := NB517_523.out
              have hnc37 := NB523_517.out
              have hcz38_0 : w23.cell? ⟨gb517, 0, none⟩ = some (.string t512) := (blk_cell BK517.out 0).trans rfl
              have hcz38_1 : w23.cell? ⟨gb517, 1, none⟩ = some (.string t513) := (blk_cell BK517.out 1).trans rfl
              have hcz38_2 : w23.cell? ⟨gb517, 2, none⟩ = some (.int .i64 t514) := (blk_cell BK517.out 2).trans rfl
              have hfz38_0 := blk_frozen BK517.out 0
              have hfz38_1 := blk_frozen BK517.out 1
              have hfz38_2 := blk_frozen BK517.out 2
              have hnb39 := NB523_506.out
              have hnc39 := NB506_523.out
              have hcz40_0 : w23.cell? ⟨gb523, 0, none⟩ = some (.string (⟨#[]⟩ : ByteArray)) := (blk_cell BK523.out 0).trans rfl
              have hcz40_1 : w23.cell? ⟨gb523, 1, none⟩ = some (.string (⟨#[]⟩ : ByteArray)) := (blk_cell BK523.out 1).trans rfl
              have hcz40_2 : w23.cell? ⟨gb523, 2, none⟩ = some (.int .i64 0) := (blk_cell BK523.out 2).trans rfl
              have hfz40_0 := blk_frozen BK523.out 0
              have hfz40_1 := blk_frozen BK523.out 1
              have hfz40_2 := blk_frozen BK523.out 2
              go_wp2
              go_meet
              case rel => exact ⟨_, ((t516 != t522)), (by first | rfl | (simp; done) | (simp [*]; done)), H', ⟨by first | omega | exact Nat.le_refl _⟩, ⟨by (with_reducible repeat (first | refine blk_drewN ?_ _ | refine blk_drew ?_ | refine blk_alloc ?_ _)); refine blk_far ?_ NB506_523.out _; (with_reducible repeat (first | refine blk_drewN ?_ _ | refine blk_drew ?_ | refine blk_alloc ?_ _)); refine blk_far ?_ NB506_523.out _; (with_reducible repeat (first | refine blk_drewN ?_ _ | refine blk_drew ?_ | refine blk_alloc ?_ _)); refine blk_far ?_ NB506_523.out _; (with_reducible repeat (first | refine blk_drewN ?_ _ | refine blk_drew ?_ | refine blk_alloc ?_ _)); exact BK506.out⟩, ⟨by (with_reducible repeat (first | refine blk_drewN ?_ _ | refine blk_drew ?_ | refine blk_alloc ?_ _)); refine blk_far ?_ NB517_523.out _; (with_reducible repeat (first | refine blk_drewN ?_ _ | refine blk_drew ?_ | refine blk_alloc ?_ _)); refine blk_far ?_ NB517_523.out _; (with_reducible repeat (first | refine blk_drewN ?_ _ | refine blk_drew ?_ | refine blk_alloc ?_ _)); refine blk_far ?_ NB517_523.out _; (with_reducible repeat (first | refine blk_drewN ?_ _ | refine blk_drew ?_ | refine blk_alloc ?_ _)); exact BK517.out⟩, ⟨by (with_reducible repeat (first | refine blk_drewN ?_ _ | refine blk_drew ?_ | refine blk_alloc ?_ _)); refine blk_put (cs := #[.string t518, .string t519, .int .i64 0]) ?_ 2 _ rfl; (with_reducible repeat (first | refine blk_drewN ?_ _ | refine blk_drew ?_ | refine blk_alloc ?_ _)); refine blk_put (cs := #[.string t518, .string (⟨#[]⟩ : ByteArray), .int .i64 0]) ?_ 1 _ rfl; (with_reducible repeat (first | refine blk_drewN ?_ _ | refine blk_drew ?_ | refine blk_alloc ?_ _)); refine blk_put (cs := #[.string (⟨#[]⟩ : ByteArray), .string (⟨#[]⟩ : ByteArray), .int .i64 0]) ?_ 0 _ rfl; (with_reducible repeat (first | refine blk_drewN ?_ _ | refine blk_drew ?_ | refine blk_alloc ?_ _)); exact BK523.out⟩, ⟨by repeat (first | (with_reducible first | exact HB.out | apply below_alloc | apply pw_below_drewN | apply below_drew1 | refine below_set ?_ GE506.out | refine below_set ?_ GE517.out | refine below_set ?_ GE523.out) | exact HB.out)⟩⟩
            · rw [if_neg c35] at H
              have c35b0 : (t515 == t521) = false := beq_eq_false_iff_ne.mpr c35
              have c35b1 : (t515 != t521) = true := bne_iff_ne.mpr c35
              have H' := Aside0.mk H
              clear H
              have hnb41 := NB517_506.out
              have hnc41 := NB506_517.out
              have hnb42 := NB517_523.out
              have hnc42 := NB523_517.out
              have hcz43_0 : w23.cell? ⟨gb517, 0, none⟩ = some (.string t512) := (blk_cell BK517.out 0).trans rfl
              have hcz43_1 : w23.cell? ⟨gb517, 1, none⟩ = some (.string t513) := (blk_cell BK517.out 1).trans rfl
              have hcz43_2 : w23.cell? ⟨gb517, 2, none⟩ = some (.int .i64 t514) := (blk_cell BK517.out 2).trans rfl
              have hfz43_0 := blk_frozen BK517.out 0
              have hfz43_1 := blk_frozen BK517.out 1
              have hfz43_2 := blk_frozen BK517.out 2
              have hnb44 := NB523_506.out
              have hnc44 := NB506_523.out
              have hcz45_0 : w23.cell? ⟨gb523, 0, none⟩ = some (.string (⟨#[]⟩ : ByteArray)) := (blk_cell BK523.out 0).trans rfl
              have hcz45_1 : w23.cell? ⟨gb523, 1, none⟩ = some (.string (⟨#[]⟩ : ByteArray)) := (blk_cell BK523.out 1).trans rfl
              have hcz45_2 : w23.cell? ⟨gb523, 2, none⟩ = some (.int .i64 0) := (blk_cell BK523.out 2).trans rfl
              have hfz45_0 := blk_frozen BK523.out 0
              have hfz45_1 := blk_frozen BK523.out 1
              have hfz45_2 := blk_frozen BK523.out 2
              go_wp2
              go_meet
              case rel => exact ⟨_, (true), (by first | rfl | (simp; done) | (simp [*]; done)), H', ⟨by first | omega | exact Nat.le_refl _⟩, ⟨by (with_reducible repeat (first | refine blk_drewN ?_ _ | refine blk_drew ?_ | refine blk_alloc ?_ _)); refine blk_far ?_ NB506_523.out _; (with_reducible repeat (first | refine blk_drewN ?_ _ | refine blk_drew ?_ | refine blk_alloc ?_ _)); refine blk_far ?_ NB506_523.out _; (with_reducible repeat (first | refine blk_drewN ?_ _ | refine blk_drew ?_ | refine blk_alloc ?_ _)); refine blk_far ?_ NB506_523.out _; (with_reducible repeat (first | refine blk_drewN ?_ _ | refine blk_drew ?_ | refine blk_alloc ?_ _)); exact BK506.out⟩, ⟨by (with_reducible repeat (first | refine blk_drewN ?_ _ | refine blk_drew ?_ | refine blk_alloc ?_ _)); refine blk_far ?_ NB517_523.out _; (with_reducible repeat (first | refine blk_drewN ?_ _ | refine blk_drew ?_ | refine blk_alloc ?_ _)); refine blk_far ?_ NB517_523.out _; (with_reducible repeat (first | refine blk_drewN ?_ _ | refine blk_drew ?_ | refine blk_alloc ?_ _)); refine blk_far ?_ NB517_523.out _; (with_reducible repeat (first | refine blk_drewN ?_ _ | refine blk_drew ?_ | refine blk_alloc ?_ _)); exact BK517.out⟩, ⟨by (with_reducible repeat (first | refine blk_drewN ?_ _ | refine blk_drew ?_ | refine blk_alloc ?_ _)); refine blk_put (cs := #[.string t518, .string t519, .int .i64 0]) ?_ 2 _ rfl; (with_reducible repeat (first | refine blk_drewN ?_ _ | refine blk_drew ?_ | refine blk_alloc ?_ _)); refine blk_put (cs := #[.string t518, .string (⟨#[]⟩ : ByteArray), .int .i64 0]) ?_ 1 _ rfl; (with_reducible repeat (first | refine blk_drewN ?_ _ | refine blk_drew ?_ | refine blk_alloc ?_ _)); refine blk_put (cs := #[.string (⟨#[]⟩ : ByteArray), .string (⟨#[]⟩ : ByteArray), .int .i64 0]) ?_ 0 _ rfl; (with_reducible repeat (first | refine blk_drewN ?_ _ | refine blk_drew ?_ | refine blk_alloc ?_ _)); exact BK523.out⟩, ⟨by repeat (first | (with_reducible first | exact HB.out | apply below_alloc | apply pw_below_drewN | apply below_drew1 | refine below_set ?_ GE506.out | refine below_set ?_ GE517.out | refine below_set ?_ GE523.out) | exact HB.out)⟩⟩
      · rw [if_neg c27] at H
        have c27b0 : (t507.toList == t509.toList) = false := beq_eq_false_iff_ne.mpr c27
        have c27b1 : (t507.toList != t509.toList) = true := bne_iff_ne.mpr c27
        (first | rw [c27b0] | (simp only [i64_w, i32_w]; rw [c27b0]) | skip)
        have H' := Aside0.mk H
        clear H
        go_wp2
        go_meet
        case rel => exact ⟨_, (true), (by first | rfl | (simp; done) | (simp [*]; done)), H', ⟨by first | omega | exact Nat.le_refl _⟩, ⟨by (with_reducible repeat (first | refine blk_drewN ?_ _ | refine blk_drew ?_ | refine blk_alloc ?_ _)); refine blk_far ?_ NB506_523.out _; (with_reducible repeat (first | refine blk_drewN ?_ _ | refine blk_drew ?_ | refine blk_alloc ?_ _)); refine blk_far ?_ NB506_523.out _; (with_reducible repeat (first | refine blk_drewN ?_ _ | refine blk_drew ?_ | refine blk_alloc ?_ _)); refine blk_far ?_ NB506_523.out _; (with_reducible repeat (first | refine blk_drewN ?_ _ | refine blk_drew ?_ | refine blk_alloc ?_ _)); exact BK506.out⟩, ⟨by (with_reducible repeat (first | refine blk_drewN ?_ _ | refine blk_drew ?_ | refine blk_alloc ?_ _)); refine blk_far ?_ NB517_523.out _; (with_reducible repeat (first | refine blk_drewN ?_ _ | refine blk_drew ?_ | refine blk_alloc ?_ _)); refine blk_far ?_ NB517_523.out _; (with_reducible repeat (first | refine blk_drewN ?_ _ | refine blk_drew ?_ | refine blk_alloc ?_ _)); refine blk_far ?_ NB517_523.out _; (with_reducible repeat (first | refine blk_drewN ?_ _ | refine blk_drew ?_ | refine blk_alloc ?_ _)); exact BK517.out⟩, ⟨by (with_reducible repeat (first | refine blk_drewN ?_ _ | refine blk_drew ?_ | refine blk_alloc ?_ _)); refine blk_put (cs := #[.string t518, .string t519, .int .i64 0]) ?_ 2 _ rfl; (with_reducible repeat (first | refine blk_drewN ?_ _ | refine blk_drew ?_ | refine blk_alloc ?_ _)); refine blk_put (cs := #[.string t518, .string (⟨#[]⟩ : ByteArray), .int .i64 0]) ?_ 1 _ rfl; (with_reducible repeat (first | refine blk_drewN ?_ _ | refine blk_drew ?_ | refine blk_alloc ?_ _)); refine blk_put (cs := #[.string (⟨#[]⟩ : ByteArray), .string (⟨#[]⟩ : ByteArray), .int .i64 0]) ?_ 0 _ rfl; (with_reducible repeat (first | refine blk_drewN ?_ _ | refine blk_drew ?_ | refine blk_alloc ?_ _)); exact BK523.out⟩, ⟨by repeat (first | (with_reducible first | exact HB.out | apply below_alloc | apply pw_below_drewN | apply below_drew1 | refine below_set ?_ GE506.out | refine below_set ?_ GE517.out | refine below_set ?_ GE523.out) | exact HB.out)⟩⟩
    case rest =>
      clear HC10
      try clear c2
      try clear p2
      try clear c3
      try clear c4
      try clear c8
      try clear c20
      try clear c24
      try clear c25
      try clear c27
      try clear c27b0
      try clear c27b1
      try clear c28
      try clear c28b0
      try clear c28b1
      try clear c28b2
      try clear c29
      try clear c29b0
      try clear c30
      try clear c31
      try clear c32
      try clear c33
      try clear c34
      try clear c35
      try clear c35b0
      try clear c35b1
      try clear c36
      try clear c37
      try clear c39
      try clear c41
      try clear c42
      try clear c44
      try clear hcz13_0
      try clear hcz13_1
      try clear hcz15_0
      try clear hcz15_1
      try clear hcz21_0
      try clear hcz21_1
      try clear hcz21_2
      try clear hcz26_0
      try clear hcz26_1
      try clear hcz26_2
      try clear hcz32_0
      try clear hcz32_1
      try clear hcz32_2
      try clear hcz34_0
      try clear hcz34_1
      try clear hcz34_2
      try clear hcz38_0
      try clear hcz38_1
      try clear hcz38_2
      try clear hcz40_0
      try clear hcz40_1
      try clear hcz40_2
      try clear hcz43_0
      try clear hcz43_1
      try clear hcz43_2
      try clear hcz45_0
      try clear hcz45_1
      try clear hcz45_2
      try clear hfz13_0
      try clear hfz13_1
      try clear hfz15_0
      try clear hfz15_1
      try clear hfz21_0
      try clear hfz21_1
      try clear hfz21_2
      try clear hfz26_0
      try clear hfz26_1
      try clear hfz26_2
      try clear hfz32_0
      try clear hfz32_1
      try clear hfz32_2
      try clear hfz34_0
      try clear hfz34_1
      try clear hfz34_2
      try clear hfz38_0
      try clear hfz38_1
      try clear hfz38_2
      try clear hfz40_0
      try clear hfz40_1
      try clear hfz40_2
      try clear hfz43_0
      try clear hfz43_1
      try clear hfz43_2
      try clear hfz45_0
      try clear hfz45_1
      try clear hfz45_2
      obtain ⟨kq, x76_9, rfl, HA, HJ9, BK506, BK517, BK523, HB⟩ := hcut
      cases kq with
      | zero => exact absurd HA.out (by simp [laws_FnLogLines.j0])
      | succ kj9 =>
        have H := HA.out
        clear HA
        simp only [laws_FnLogLines.j0] at H
        by_cases c46 : x76_9 = true
        · subst c46
          have H1 : (some false) = some r := by rw [if_pos rfl] at H; exact H
          clear H
          have H := H1
          clear H1
          obtain rfl := Option.some.inj H
          go_wp2
          go_ret
          exact ⟨by first | rfl | (simp [errW_none, errW_some] <;> rfl) | (simp [*, errW_none, errW_some] <;> rfl), by repeat (first | (with_reducible first | exact HB.out | apply below_alloc | apply pw_below_drewN | apply below_drew1 | refine below_set ?_ GE506.out | refine below_set ?_ GE517.out | refine below_set ?_ GE523.out) | exact HB.out)⟩
        · replace c46 := Bool.eq_false_iff.mpr c46
          subst c46
          have H1 : ((impl_RecoverLog.f kj9 t507).bind fun bt524 => (if t508 = true then (if ((decide (bt524.2.2.2.1 > 0)) != (t503 == 0)) = true then (laws_FnLogLines.j1 kj9 t507 t508 t516 true t512 t513 t514) else (if t503 = 0 then (laws_FnLogLines.j1 kj9 t507 t508 t516 (bt524.2.2.1 != 1) t512 t513 t514) else (laws_FnLogLines.j1 kj9 t507 t508 t516 false t512 t513 t514))) else (laws_FnLogLines.j1 kj9 t507 t508 t516 false t512 t513 t514))) = some r := by rw [if_neg (show ¬ (false = true) by decide)] at H; exact H
          clear H
          have H := H1
          clear H1
          replace H := Option.bind_eq_some_iff.mp H
          obtain ⟨⟨t524, t525, t526, t527, t528⟩, A470, H⟩ := H
          replace H : (if t508 = true then (if ((decide (0 < t527)) != (t503 == 0)) = true then (laws_FnLogLines.j1 kj9 t507 t508 t516 true t512 t513 t514) else (if t503 = 0 then (laws_FnLogLines.j1 kj9 t507 t508 t516 (t526 != 1) t512 t513 t514) else (laws_FnLogLines.j1 kj9 t507 t508 t516 false t512 t513 t514))) else (laws_FnLogLines.j1 kj9 t507 t508 t516 false t512 t513 t514)) = some r := H
          have A47 := Aside0.mk A470
          clear A470
          have HC48 := Aside0.mk H
          clear H
          go_upto_region 12 with (first | ((with_reducible refine gate_callee (f := 34) rfl ?_); refine goesL_ (some 79) rfl rfl Tryd.func34 (by kernel_rfl) rfl #[.string t507] rfl (by (try simp only [List.map_toArray, List.map_cons, List.map_nil]); first | done | rfl | (simp only [List.length_drop, List.length_take]; rfl)) ?_; (with_reducible refine (impl_RecoverLog.calls kj9 t507 t524 t525 t526 t527 t528 _ ?side1 A47.out).mono ?_); (case side1 => exact Gl.below HG.out (by repeat (first | (with_reducible first | exact HB.out | apply below_alloc | apply pw_below_drewN | apply below_drew1 | refine below_set ?_ GE506.out | refine below_set ?_ GE517.out | refine below_set ?_ GE523.out) | exact HB.out))); rintro e w49 ⟨rfl, hb⟩; refine ⟨_, rfl, ?_⟩; have n0_ := Aside0.mk (blk_below (g := gb506) (o := .cells #[.string t504, .string t505] 40 (0, 0)) (by (with_reducible repeat (first | refine blk_drewN ?_ _ | refine blk_drew ?_ | refine blk_alloc ?_ _)); exact BK506.out) hb); have n1_ := Aside0.mk (blk_below (g := gb517) (o := .cells #[.string t512, .string t513, .int .i64 t514] 26 (0, 0)) (by (with_reducible repeat (first | refine blk_drewN ?_ _ | refine blk_drew ?_ | refine blk_alloc ?_ _)); exact BK517.out) hb); have n2_ := Aside0.mk (blk_below (g := gb523) (o := .cells #[.string t518, .string t519, .int .i64 t520] 26 (0, 0)) (by (with_reducible repeat (first | refine blk_drewN ?_ _ | refine blk_drew ?_ | refine blk_alloc ?_ _)); exact BK523.out) hb); have n3_ := Aside0.mk (below_step (by repeat (first | (with_reducible first | exact HB.out | apply below_alloc | apply pw_below_drewN | apply below_drew1 | refine below_set ?_ GE506.out | refine below_set ?_ GE517.out | refine below_set ?_ GE523.out) | exact HB.out)) hb); clear BK506; clear BK517; clear BK523; clear HB; have BK506 := n0_; have BK517 := n1_; have BK523 := n2_; have HB := n3_; clear n0_ n1_ n2_ n3_; (try clear hb); (try clear hb2); (try clear hk); (try clear hi)) | ((with_reducible refine gate_dst (N := 16) rfl ?_); refine box_event ?hg (N := 16) ?hd (cs := #[.string (⟨#[]⟩ : ByteArray), .string (⟨#[]⟩ : ByteArray), .int .i64 0]) (t := 26) ?hr ?_; (case hd => rfl); (case hg => rfl); (case hr => first | (go_simp; done) | (go_simp; rfl)); intro gb529 hg w50 hbox hb; have n0_ := Aside0.mk (blk_below (g := gb506) (o := .cells #[.string t504, .string t505] 40 (0, 0)) (by (with_reducible repeat (first | refine blk_drewN ?_ _ | refine blk_drew ?_ | refine blk_alloc ?_ _)); exact BK506.out) hb); have n1_ := Aside0.mk (blk_below (g := gb517) (o := .cells #[.string t512, .string t513, .int .i64 t514] 26 (0, 0)) (by (with_reducible repeat (first | refine blk_drewN ?_ _ | refine blk_drew ?_ | refine blk_alloc ?_ _)); exact BK517.out) hb); have n2_ := Aside0.mk (blk_below (g := gb523) (o := .cells #[.string t518, .string t519, .int .i64 t520] 26 (0, 0)) (by (with_reducible repeat (first | refine blk_drewN ?_ _ | refine blk_drew ?_ | refine blk_alloc ?_ _)); exact BK523.out) hb); have n3_ := Aside0.mk (below_step (by repeat (first | (with_reducible first | exact HB.out | apply below_alloc | apply pw_below_drewN | apply below_drew1 | refine below_set ?_ GE506.out | refine below_set ?_ GE517.out | refine below_set ?_ GE523.out) | exact HB.out)) hb); have n4_ := Aside0.mk (hbox); have n5_ := Aside0.mk ((by rw [hg]; exact (below_size (by repeat (first | (with_reducible first | exact HB.out | apply below_alloc | apply pw_below_drewN | apply below_drew1 | refine below_set ?_ GE506.out | refine below_set ?_ GE517.out | refine below_set ?_ GE523.out) | exact HB.out))) : w.heap.size ≤ gb529)); have n6_ := Aside0.mk ((by rw [hg]; exact (below_size (by repeat (first | (with_reducible first | exact HB.out | apply below_alloc | apply pw_below_drewN | apply below_drew1 | refine below_set ?_ GE506.out | refine below_set ?_ GE517.out | refine below_set ?_ GE523.out) | exact HB.out))) : w.heap.size ≤ gb529)); have n7_ := Aside0.mk ((by rw [hg]; exact Nat.ne_of_lt (blk_lt (g := gb506) (o := .cells #[.string t504, .string t505] 40 (0, 0)) (by (with_reducible repeat (first | refine blk_drewN ?_ _ | refine blk_drew ?_ | refine blk_alloc ?_ _)); exact BK506.out)) : gb506 ≠ gb529)); have n8_ := Aside0.mk ((by rw [hg]; exact Nat.ne_of_gt (blk_lt (g := gb506) (o := .cells #[.string t504, .string t505] 40 (0, 0)) (by (with_reducible repeat (first | refine blk_drewN ?_ _ | refine blk_drew ?_ | refine blk_alloc ?_ _)); exact BK506.out)) : gb529 ≠ gb506)); have n9_ := Aside0.mk ((by rw [hg]; exact Nat.ne_of_lt (blk_lt (g := gb517) (o := .cells #[.string t512, .string t513, .int .i64 t514] 26 (0, 0)) (by (with_reducible repeat (first | refine blk_drewN ?_ _ | refine blk_drew ?_ | refine blk_alloc ?_ _)); exact BK517.out)) : gb517 ≠ gb529)); have n10_ := Aside0.mk ((by rw [hg]; exact Nat.ne_of_gt (blk_lt (g := gb517) (o := .cells #[.string t512, .string t513, .int .i64 t514] 26 (0, 0)) (by (with_reducible repeat (first | refine blk_drewN ?_ _ | refine blk_drew ?_ | refine blk_alloc ?_ _)); exact BK517.out)) : gb529 ≠ gb517)); have n11_ := Aside0.mk ((by rw [hg]; exact Nat.ne_of_lt (blk_lt (g := gb523) (o := .cells #[.string t518, .string t519, .int .i64 t520] 26 (0, 0)) (by (with_reducible repeat (first | refine blk_drewN ?_ _ | refine blk_drew ?_ | refine blk_alloc ?_ _)); exact BK523.out)) : gb523 ≠ gb529)); have n12_ := Aside0.mk ((by rw [hg]; exact Nat.ne_of_gt (blk_lt (g := gb523) (o := .cells #[.string t518, .string t519, .int .i64 t520] 26 (0, 0)) (by (with_reducible repeat (first | refine blk_drewN ?_ _ | refine blk_drew ?_ | refine blk_alloc ?_ _)); exact BK523.out)) : gb529 ≠ gb523)); clear BK506; clear BK517; clear BK523; clear HB; have BK506 := n0_; have BK517 := n1_; have BK523 := n2_; have HB := n3_; have BK529 := n4_; have GW529 := n5_; have GE529 := n6_; have NB506_529 := n7_; have NB529_506 := n8_; have NB517_529 := n9_; have NB529_517 := n10_; have NB523_529 := n11_; have NB529_523 := n12_; clear n0_ n1_ n2_ n3_ n4_ n5_ n6_ n7_ n8_ n9_ n10_ n11_ n12_; clear hb hbox hg; have hnb51 := NB529_506.out; have hnc51 := NB506_529.out; have hnb52 := NB529_517.out; have hnc52 := NB517_529.out; have hnb53 := NB529_523.out; have hnc53 := NB523_529.out; have hcz54_0 : w50.cell? ⟨gb529, 0, none⟩ = some (.string (⟨#[]⟩ : ByteArray)) := (blk_cell BK529.out 0).trans rfl; have hcz54_1 : w50.cell? ⟨gb529, 1, none⟩ = some (.string (⟨#[]⟩ : ByteArray)) := (blk_cell BK529.out 1).trans rfl; have hcz54_2 : w50.cell? ⟨gb529, 2, none⟩ = some (.int .i64 0) := (blk_cell BK529.out 2).trans rfl; have hfz54_0 := blk_frozen BK529.out 0; have hfz54_1 := blk_frozen BK529.out 1; have hfz54_2 := blk_frozen BK529.out 2))
          (try simp only [Act.put, List.setIfInBounds_toArray, List.set_cons_zero, List.set_cons_succ])
          go_cut [102] (fun v102 wc => ∃ (kq : Nat) (x102_47 : Bool), v102 = .bool x102_47 ∧ Aside0 (laws_FnLogLines.j1 kq t507 t508 t516 x102_47 t512 t513 t514 = some r) ∧ Aside0 (kq ≤ kj9) ∧ Aside0 (wc.heap[gb506]? = some (.cells #[.string t504, .string t505] 40 (0, 0))) ∧ Aside0 (wc.heap[gb517]? = some (.cells #[.string t512, .string t513, .int .i64 t514] 26 (0, 0))) ∧ Aside0 (wc.heap[gb523]? = some (.cells #[.string t518, .string t519, .int .i64 t520] 26 (0, 0))) ∧ Aside0 (wc.heap[gb529]? = some (.cells #[.string t524, .string t525, .int .i64 t526] 26 (0, 0))) ∧ Aside0 (Below w.heap.size w wc))
          case first =>
            have H := HC48.out
            clear HC48
            by_cases c55 : t508 = true
            · subst c55
              have H1 : (if ((decide (0 < t527)) != (t503 == 0)) = true then (laws_FnLogLines.j1 kj9 t507 true t516 true t512 t513 t514) else (if t503 = 0 then (laws_FnLogLines.j1 kj9 t507 true t516 (t526 != 1) t512 t513 t514) else (laws_FnLogLines.j1 kj9 t507 true t516 false t512 t513 t514))) = some r := by rw [if_pos rfl] at H; exact H
              clear H
              have H := H1
              clear H1
              by_cases c56 : ((decide (0 < t527)) != (t503 == 0)) = true
              · rw [if_pos c56] at H
                have c56b0 : ((decide (0 < t527)) != (t503 == 0)) = true := c56
                (try (have c56b1 : decide ((decide (0 < t527)) = (t503 == 0)) = false := by simpa using c56))
                (try (have c56b2 : ((decide (0 < t527)) == (t503 == 0)) = false := by simpa using c56))
                (try (have c56b3 : ¬ ((decide (0 < t527)) = (t503 == 0)) := by simpa using c56))
                clear c56
                (first | rw [c56b0] | (simp only [i64_w, i32_w]; rw [c56b0]) | skip)
                have H' := Aside0.mk H
                clear H
                go_wp2
                go_meet
                case rel => exact ⟨_, (true), (by first | rfl | (simp; done) | (simp [*]; done)), H', ⟨by have := HJ9.out; first | omega | exact Nat.le_refl _⟩, ⟨by (with_reducible repeat (first | refine blk_drewN ?_ _ | refine blk_drew ?_ | refine blk_alloc ?_ _)); refine blk_far ?_ NB506_529.out _; (with_reducible repeat (first | refine blk_drewN ?_ _ | refine blk_drew ?_ | refine blk_alloc ?_ _)); refine blk_far ?_ NB506_529.out _; (with_reducible repeat (first | refine blk_drewN ?_ _ | refine blk_drew ?_ | refine blk_alloc ?_ _)); refine blk_far ?_ NB506_529.out _; (with_reducible repeat (first | refine blk_drewN ?_ _ | refine blk_drew ?_ | refine blk_alloc ?_ _)); exact BK506.out⟩, ⟨by (with_reducible repeat (first | refine blk_drewN ?_ _ | refine blk_drew ?_ | refine blk_alloc ?_ _)); refine blk_far ?_ NB517_529.out _; (with_reducible repeat (first | refine blk_drewN ?_ _ | refine blk_drew ?_ | refine blk_alloc ?_ _)); refine blk_far ?_ NB517_529.out _; (with_reducible repeat (first | refine blk_drewN ?_ _ | refine blk_drew ?_ | refine blk_alloc ?_ _)); refine blk_far ?_ NB517_529.out _; (with_reducible repeat (first | refine blk_drewN ?_ _ | refine blk_drew ?_ | refine blk_alloc ?_ _)); exact BK517.out⟩, ⟨by (with_reducible repeat (first | refine blk_drewN ?_ _ | refine blk_drew ?_ | refine blk_alloc ?_ _)); refine blk_far ?_ NB523_529.out _; (with_reducible repeat (first | refine blk_drewN ?_ _ | refine blk_drew ?_ | refine blk_alloc ?_ _)); refine blk_far ?_ NB523_529.out _; (with_reducible repeat (first | refine blk_drewN ?_ _ | refine blk_drew ?_ | refine blk_alloc ?_ _)); refine blk_far ?_ NB523_529.out _; (with_reducible repeat (first | refine blk_drewN ?_ _ | refine blk_drew ?_ | refine blk_alloc ?_ _)); exact BK523.out⟩, ⟨by (with_reducible repeat (first | refine blk_drewN ?_ _ | refine blk_drew ?_ | refine blk_alloc ?_ _)); refine blk_put (cs := #[.string t524, .string t525, .int .i64 0]) ?_ 2 _ rfl; (with_reducible repeat (first | refine blk_drewN ?_ _ | refine blk_drew ?_ | refine blk_alloc ?_ _)); refine blk_put (cs := #[.string t524, .string (⟨#[]⟩ : ByteArray), .int .i64 0]) ?_ 1 _ rfl; (with_reducible repeat (first | refine blk_drewN ?_ _ | refine blk_drew ?_ | refine blk_alloc ?_ _)); refine blk_put (cs := #[.string (⟨#[]⟩ : ByteArray), .string (⟨#[]⟩ : ByteArray), .int .i64 0]) ?_ 0 _ rfl; (with_reducible repeat (first | refine blk_drewN ?_ _ | refine blk_drew ?_ | refine blk_alloc ?_ _)); exact BK529.out⟩, ⟨by repeat (first | (with_reducible first | exact HB.out | apply below_alloc | apply pw_below_drewN | apply below_drew1 | refine below_set ?_ GE506.out | refine below_set ?_ GE517.out | refine below_set ?_ GE523.out | refine below_set ?_ GE529.out) | exact HB.out)⟩⟩
              · rw [if_neg c56] at H
                have c56b0 : ((decide (0 < t527)) != (t503 == 0)) = false := by simpa using c56
                have c56b9 : decide (0 < t527) = (t503 == 0) := by simpa using c56b0
                (try (have c56b1 : decide ((decide (0 < t527)) = (t503 == 0)) = true := by simpa using c56))
                (try (have c56b2 : ((decide (0 < t527)) == (t503 == 0)) = true := by simpa using c56))
                clear c56
                (first | rw [c56b0] | (simp only [i64_w, i32_w]; rw [c56b0]) | skip)
                by_cases c57 : t503 = 0
                · rw [if_pos c57] at H
                  have c57b0 : (t503 == 0) = true := beq_iff_eq.mpr c57
                  have c57b1 : (t503 != 0) = false := bne_eq_false_iff_eq.mpr c57
                  clear c57
                  have H' := Aside0.mk H
                  clear H
                  have hnb58 := NB529_506.out
                  have hnc58 := NB506_529.out
                  have hnb59 := NB529_517.out
                  have hnc59 := NB517_529.out
                  have hnb60 := NB529_523.out
                  have hnc60 := NB523_529.out
                  have hcz61_0 : w50.cell? ⟨gb529, 0, none⟩ = some (.string (⟨#[]⟩ : ByteArray)) := (blk_cell BK529.out 0).trans rfl
                  have hcz61_1 : w50.cell? ⟨gb529, 1, none⟩ = some (.string (⟨#[]⟩ : ByteArray)) := (blk_cell BK529.out 1).trans rfl
                  have hcz61_2 : w50.cell? ⟨gb529, 2, none⟩ = some (.int .i64 0) := (blk_cell BK529.out 2).trans rfl
                  have hfz61_0 := blk_frozen BK529.out 0
                  have hfz61_1 := blk_frozen BK529.out 1
                  have hfz61_2 := blk_frozen BK529.out 2
                  go_wp2
                  go_meet
                  case rel => exact ⟨_, ((t526 != 1)), (by first | rfl | (simp; done) | (simp [*]; done)), H', ⟨by have := HJ9.out; first | omega | exact Nat.le_refl _⟩, ⟨by (with_reducible repeat (first | refine blk_drewN ?_ _ | refine blk_drew ?_ | refine blk_alloc ?_ _)); refine blk_far ?_ NB506_529.out _; (with_reducible repeat (first | refine blk_drewN ?_ _ | refine blk_drew ?_ | refine blk_alloc ?_ _)); refine blk_far ?_ NB506_529.out _; (with_reducible repeat (first | refine blk_drewN ?_ _ | refine blk_drew ?_ | refine blk_alloc ?_ _)); refine blk_far ?_ NB506_529.out _; (with_reducible repeat (first | refine blk_drewN ?_ _ | refine blk_drew ?_ | refine blk_alloc ?_ _)); exact BK506.out⟩, ⟨by (with_reducible repeat (first | refine blk_drewN ?_ _ | refine blk_drew ?_ | refine blk_alloc ?_ _)); refine blk_far ?_ NB517_529.out _; (with_reducible repeat (first | refine blk_drewN ?_ _ | refine blk_drew ?_ | refine blk_alloc ?_ _)); refine blk_far ?_ NB517_529.out _; (with_reducible repeat (first | refine blk_drewN ?_ _ | refine blk_drew ?_ | refine blk_alloc ?_ _)); refine blk_far ?_ NB517_529.out _; (with_reducible repeat (first | refine blk_drewN ?_ _ | refine blk_drew ?_ | refine blk_alloc ?_ _)); exact BK517.out⟩, ⟨by (with_reducible repeat (first | refine blk_drewN ?_ _ | refine blk_drew ?_ | refine blk_alloc ?_ _)); refine blk_far ?_ NB523_529.out _; (with_reducible repeat (first | refine blk_drewN ?_ _ | refine blk_drew ?_ | refine blk_alloc ?_ _)); refine blk_far ?_ NB523_529.out _; (with_reducible repeat (first | refine blk_drewN ?_ _ | refine blk_drew ?_ | refine blk_alloc ?_ _)); refine blk_far ?_ NB523_529.out _; (with_reducible repeat (first | refine blk_drewN ?_ _ | refine blk_drew ?_ | refine blk_alloc ?_ _)); exact BK523.out⟩, ⟨by (with_reducible repeat (first | refine blk_drewN ?_ _ | refine blk_drew ?_ | refine blk_alloc ?_ _)); refine blk_put (cs := #[.string t524, .string t525, .int .i64 0]) ?_ 2 _ rfl; (with_reducible repeat (first | refine blk_drewN ?_ _ | refine blk_drew ?_ | refine blk_alloc ?_ _)); refine blk_put (cs := #[.string t524, .string (⟨#[]⟩ : ByteArray), .int .i64 0]) ?_ 1 _ rfl; (with_reducible repeat (first | refine blk_drewN ?_ _ | refine blk_drew ?_ | refine blk_alloc ?_ _)); refine blk_put (cs := #[.string (⟨#[]⟩ : ByteArray), .string (⟨#[]⟩ : ByteArray), .int .i64 0]) ?_ 0 _ rfl; (with_reducible repeat (first | refine blk_drewN ?_ _ | refine blk_drew ?_ | refine blk_alloc ?_ _)); exact BK529.out⟩, ⟨by repeat (first | (with_reducible first | exact HB.out | apply below_alloc | apply pw_below_drewN | apply below_drew1 | refine below_set ?_ GE506.out | refine below_set ?_ GE517.out | refine below_set ?_ GE523.out | refine below_set ?_ GE529.out) | exact HB.out)⟩⟩
                · rw [if_neg c57] at H
                  have c57b0 : (t503 == 0) = false := beq_eq_false_iff_ne.mpr c57
                  have c57b1 : (t503 != 0) = true := bne_iff_ne.mpr c57
                  have H' := Aside0.mk H
                  clear H
                  go_wp2
                  go_meet
                  case rel => exact ⟨_, (false), (by first | rfl | (simp; done) | (simp [*]; done)), H', ⟨by have := HJ9.out; first | omega | exact Nat.le_refl _⟩, ⟨by (with_reducible repeat (first | refine blk_drewN ?_ _ | refine blk_drew ?_ | refine blk_alloc ?_ _)); refine blk_far ?_ NB506_529.out _; (with_reducible repeat (first | refine blk_drewN ?_ _ | refine blk_drew ?_ | refine blk_alloc ?_ _)); refine blk_far ?_ NB506_529.out _; (with_reducible repeat (first | refine blk_drewN ?_ _ | refine blk_drew ?_ | refine blk_alloc ?_ _)); refine blk_far ?_ NB506_529.out _; (with_reducible repeat (first | refine blk_drewN ?_ _ | refine blk_drew ?_ | refine blk_alloc ?_ _)); exact BK506.out⟩, ⟨by (with_reducible repeat (first | refine blk_drewN ?_ _ | refine blk_drew ?_ | refine blk_alloc ?_ _)); refine blk_far ?_ NB517_529.out _; (with_reducible repeat (first | refine blk_drewN ?_ _ | refine blk_drew ?_ | refine blk_alloc ?_ _)); refine blk_far ?_ NB517_529.out _; (with_reducible repeat (first | refine blk_drewN ?_ _ | refine blk_drew ?_ | refine blk_alloc ?_ _)); refine blk_far ?_ NB517_529.out _; (with_reducible repeat (first | refine blk_drewN ?_ _ | refine blk_drew ?_ | refine blk_alloc ?_ _)); exact BK517.out⟩, ⟨by (with_reducible repeat (first | refine blk_drewN ?_ _ | refine blk_drew ?_ | refine blk_alloc ?_ _)); refine blk_far ?_ NB523_529.out _; (with_reducible repeat (first | refine blk_drewN ?_ _ | refine blk_drew ?_ | refine blk_alloc ?_ _)); refine blk_far ?_ NB523_529.out _; (with_reducible repeat (first | refine blk_drewN ?_ _ | refine blk_drew ?_ | refine blk_alloc ?_ _)); refine blk_far ?_ NB523_529.out _; (with_reducible repeat (first | refine blk_drewN ?_ _ | refine blk_drew ?_ | refine blk_alloc ?_ _)); exact BK523.out⟩, ⟨by (with_reducible repeat (first | refine blk_drewN ?_ _ | refine blk_drew ?_ | refine blk_alloc ?_ _)); refine blk_put (cs := #[.string t524, .string t525, .int .i64 0]) ?_ 2 _ rfl; (with_reducible repeat (first | refine blk_drewN ?_ _ | refine blk_drew ?_ | refine blk_alloc ?_ _)); refine blk_put (cs := #[.string t524, .string (⟨#[]⟩ : ByteArray), .int .i64 0]) ?_ 1 _ rfl; (with_reducible repeat (first | refine blk_drewN ?_ _ | refine blk_drew ?_ | refine blk_alloc ?_ _)); refine blk_put (cs := #[.string (⟨#[]⟩ : ByteArray), .string (⟨#[]⟩ : ByteArray), .int .i64 0]) ?_ 0 _ rfl; (with_reducible repeat (first | refine blk_drewN ?_ _ | refine blk_drew ?_ | refine blk_alloc ?_ _)); exact BK529.out⟩, ⟨by repeat (first | (with_reducible first | exact HB.out | apply below_alloc | apply pw_below_drewN | apply below_drew1 | refine below_set ?_ GE506.out | refine below_set ?_ GE517.out | refine below_set ?_ GE523.out | refine below_set ?_ GE529.out) | exact HB.out)⟩⟩
            · replace c55 := Bool.eq_false_iff.mpr c55
              subst c55
              have H1 : (laws_FnLogLines.j1 kj9 t507 false t516 false t512 t513 t514) = some r := by rw [if_neg (show ¬ (false = true) by decide)] at H; exact H
              clear H
              have H := H1
              clear H1
              have H' := Aside0.mk H
              clear H
              go_wp2
              go_meet
              case rel => exact ⟨_, (false), (by first | rfl | (simp; done) | (simp [*]; done)), H', ⟨by have := HJ9.out; first | omega | exact Nat.le_refl _⟩, ⟨by (with_reducible repeat (first | refine blk_drewN ?_ _ | refine blk_drew ?_ | refine blk_alloc ?_ _)); refine blk_far ?_ NB506_529.out _; (with_reducible repeat (first | refine blk_drewN ?_ _ | refine blk_drew ?_ | refine blk_alloc ?_ _)); refine blk_far ?_ NB506_529.out _; (with_reducible repeat (first | refine blk_drewN ?_ _ | refine blk_drew ?_ | refine blk_alloc ?_ _)); refine blk_far ?_ NB506_529.out _; (with_reducible repeat (first | refine blk_drewN ?_ _ | refine blk_drew ?_ | refine blk_alloc ?_ _)); exact BK506.out⟩, ⟨by (with_reducible repeat (first | refine blk_drewN ?_ _ | refine blk_drew ?_ | refine blk_alloc ?_ _)); refine blk_far ?_ NB517_529.out _; (with_reducible repeat (first | refine blk_drewN ?_ _ | refine blk_drew ?_ | refine blk_alloc ?_ _)); refine blk_far ?_ NB517_529.out _; (with_reducible repeat (first | refine blk_drewN ?_ _ | refine blk_drew ?_ | refine blk_alloc ?_ _)); refine blk_far ?_ NB517_529.out _; (with_reducible repeat (first | refine blk_drewN ?_ _ | refine blk_drew ?_ | refine blk_alloc ?_ _)); exact BK517.out⟩, ⟨by (with_reducible repeat (first | refine blk_drewN ?_ _ | refine blk_drew ?_ | refine blk_alloc ?_ _)); refine blk_far ?_ NB523_529.out _; (with_reducible repeat (first | refine blk_drewN ?_ _ | refine blk_drew ?_ | refine blk_alloc ?_ _)); refine blk_far ?_ NB523_529.out _; (with_reducible repeat (first | refine blk_drewN ?_ _ | refine blk_drew ?_ | refine blk_alloc ?_ _)); refine blk_far ?_ NB523_529.out _; (with_reducible repeat (first | refine blk_drewN ?_ _ | refine blk_drew ?_ | refine blk_alloc ?_ _)); exact BK523.out⟩, ⟨by (with_reducible repeat (first | refine blk_drewN ?_ _ | refine blk_drew ?_ | refine blk_alloc ?_ _)); refine blk_put (cs := #[.string t524, .string t525, .int .i64 0]) ?_ 2 _ rfl; (with_reducible repeat (first | refine blk_drewN ?_ _ | refine blk_drew ?_ | refine blk_alloc ?_ _)); refine blk_put (cs := #[.string t524, .string (⟨#[]⟩ : ByteArray), .int .i64 0]) ?_ 1 _ rfl; (with_reducible repeat (first | refine blk_drewN ?_ _ | refine blk_drew ?_ | refine blk_alloc ?_ _)); refine blk_put (cs := #[.string (⟨#[]⟩ : ByteArray), .string (⟨#[]⟩ : ByteArray), .int .i64 0]) ?_ 0 _ rfl; (with_reducible repeat (first | refine blk_drewN ?_ _ | refine blk_drew ?_ | refine blk_alloc ?_ _)); exact BK529.out⟩, ⟨by repeat (first | (with_reducible first | exact HB.out | apply below_alloc | apply pw_below_drewN | apply below_drew1 | refine below_set ?_ GE506.out | refine below_set ?_ GE517.out | refine below_set ?_ GE523.out | refine below_set ?_ GE529.out) | exact HB.out)⟩⟩
          case rest =>
            clear HC48
            try clear c2
            try clear p2
            try clear c3
            try clear c4
            try clear c5
            try clear c6
            try clear c8
            try clear c20
            try clear c24
            try clear c25
            try clear c27
            try clear c27b0
            try clear c27b1
            try clear c28
            try clear c28b0
            try clear c28b1
            try clear c28b2
            try clear c29
            try clear c29b0
            try clear c30
            try clear c31
            try clear c32
            try clear c33
            try clear c34
            try clear c35
            try clear c35b0
            try clear c35b1
            try clear c36
            try clear c37
            try clear c39
            try clear c41
            try clear c42
            try clear c44
            try clear c46
            try clear c51
            try clear c52
            try clear c53
            try clear c55
            try clear c56
            try clear c56b0
            try clear c56b1
            try clear c56b2
            try clear c57
            try clear c57b0
            try clear c57b1
            try clear c58
            try clear c59
            try clear c60
            try clear hcz13_0
            try clear hcz13_1
            try clear hcz15_0
            try clear hcz15_1
            try clear hcz21_0
            try clear hcz21_1
            try clear hcz21_2
            try clear hcz26_0
            try clear hcz26_1
            try clear hcz26_2
            try clear hcz32_0
            try clear hcz32_1
            try clear hcz32_2
            try clear hcz34_0
            try clear hcz34_1
            try clear hcz34_2
            try clear hcz38_0
            try clear hcz38_1
            try clear hcz38_2
            try clear hcz40_0
            try clear hcz40_1
            try clear hcz40_2
            try clear hcz43_0
            try clear hcz43_1
            try clear hcz43_2
            try clear hcz45_0
            try clear hcz45_1
            try clear hcz45_2
            try clear hcz54_0
            try clear hcz54_1
            try clear hcz54_2
            try clear hcz61_0
            try clear hcz61_1
            try clear hcz61_2
            try clear hfz13_0
            try clear hfz13_1
            try clear hfz15_0
            try clear hfz15_1
            try clear hfz21_0
            try clear hfz21_1
            try clear hfz21_2
            try clear hfz26_0
            try clear hfz26_1
            try clear hfz26_2
            try clear hfz32_0
            try clear hfz32_1
            try clear hfz32_2
            try clear hfz34_0
            try clear hfz34_1
            try clear hfz34_2
            try clear hfz38_0
            try clear hfz38_1
            try clear hfz38_2
            try clear hfz40_0
            try clear hfz40_1
            try clear hfz40_2
            try clear hfz43_0
            try clear hfz43_1
            try clear hfz43_2
            try clear hfz45_0
            try clear hfz45_1
            try clear hfz45_2
            try clear hfz54_0
            try clear hfz54_1
            try clear hfz54_2
            try clear hfz61_0
            try clear hfz61_1
            try clear hfz61_2
            try clear p2
            obtain ⟨kq, x102_47, rfl, HA, HJ47, BK506, BK517, BK523, BK529, HB⟩ := hcut
            cases kq with
            | zero => exact absurd HA.out (by simp [laws_FnLogLines.j1])
            | succ kj47 =>
              have H := HA.out
              clear HA
              simp only [laws_FnLogLines.j1] at H
              by_cases c62 : x102_47 = true
              · subst c62
                have H1 : (some false) = some r := by rw [if_pos rfl] at H; exact H
                clear H
                have H := H1
                clear H1
                obtain rfl := Option.some.inj H
                go_wp2
                go_ret
                exact ⟨by first | rfl | (simp [errW_none, errW_some] <;> rfl) | (simp [*, errW_none, errW_some] <;> rfl), by repeat (first | (with_reducible first | exact HB.out | apply below_alloc | apply pw_below_drewN | apply below_drew1 | refine below_set ?_ GE506.out | refine below_set ?_ GE517.out | refine below_set ?_ GE523.out | refine below_set ?_ GE529.out) | exact HB.out)⟩
              · replace c62 := Bool.eq_false_iff.mpr c62
                subst c62
                have H1 : ((impl_SyncLog.f kj47 t512 t513 t514).bind fun bt530 => (if t516 = true then (if bt530.2.2.2 = true then (if (bt530.1.toList == t512.toList && (bt530.2.1.toList == t513.toList && (bt530.2.2.1 == t514))) = true then ((impl_IsValidLog.f kj47 t512 t513 t514).bind fun t535 => (if t535 = true then (if t508 = true then (laws_FnLogLines.j2 kj47 true) else (laws_FnLogLines.j2 kj47 (t507.toList == ([] : List UInt8)))) else (laws_FnLogLines.j2 kj47 false))) else (laws_FnLogLines.j2 kj47 false)) else (laws_FnLogLines.j2 kj47 false)) else (laws_FnLogLines.j2 kj47 true))) = some r := by rw [if_neg (show ¬ (false = true) by decide)] at H; exact H
                clear H
                have H := H1
                clear H1
                replace H := Option.bind_eq_some_iff.mp H
                obtain ⟨⟨t530, t531, t532, t533⟩, A630, H⟩ := H
                replace H : (if t516 = true then (if t533 = true then (if (t530.toList == t512.toList && (t531.toList == t513.toList && (t532 == t514))) = true then ((impl_IsValidLog.f kj47 t512 t513 t514).bind fun t535 => (if t535 = true then (if t508 = true then (laws_FnLogLines.j2 kj47 true) else (laws_FnLogLines.j2 kj47 (t507.toList == ([] : List UInt8)))) else (laws_FnLogLines.j2 kj47 false))) else (laws_FnLogLines.j2 kj47 false)) else (laws_FnLogLines.j2 kj47 false)) else (laws_FnLogLines.j2 kj47 true)) = some r := H
                have A63 := Aside0.mk A630
                clear A630
                have HC64 := Aside0.mk H
                clear H
                have hnb65 := NB517_506.out
                have hnc65 := NB506_517.out
                have hnb66 := NB517_523.out
                have hnc66 := NB523_517.out
                have hnb67 := NB517_529.out
                have hnc67 := NB529_517.out
                have hcz68_0 : wc.cell? ⟨gb517, 0, none⟩ = some (.string t512) := (blk_cell BK517.out 0).trans rfl
                have hcz68_1 : wc.cell? ⟨gb517, 1, none⟩ = some (.string t513) := (blk_cell BK517.out 1).trans rfl
                have hcz68_2 : wc.cell? ⟨gb517, 2, none⟩ = some (.int .i64 t514) := (blk_cell BK517.out 2).trans rfl
                have hfz68_0 := blk_frozen BK517.out 0
                have hfz68_1 := blk_frozen BK517.out 1
                have hfz68_2 := blk_frozen BK517.out 2
                go_upto_region 15 with (first | ((with_reducible refine gate_callee (f := 18) rfl ?_); refine goesL_ (some 105) rfl rfl Tryd.func18 (by kernel_rfl) rfl #[.agg #[.string t512, .string t513, .int .i64 t514]] rfl (by (try simp only [List.map_toArray, List.map_cons, List.map_nil]); first | done | rfl | (simp only [List.length_drop, List.length_take]; rfl)) ?_; (with_reducible refine (impl_SyncLog.calls kj47 t512 t513 t514 t530 t531 t532 t533 _ ?side1 A63.out).mono ?_); (case side1 => exact Gl.below HG.out (by repeat (first | (with_reducible first | exact HB.out | apply below_alloc | apply pw_below_drewN | apply below_drew1 | refine below_set ?_ GE506.out | refine below_set ?_ GE517.out | refine below_set ?_ GE523.out | refine below_set ?_ GE529.out) | exact HB.out))); rintro e w69 ⟨rfl, hb⟩; refine ⟨_, rfl, ?_⟩; have n0_ := Aside0.mk (blk_below (g := gb506) (o := .cells #[.string t504, .string t505] 40 (0, 0)) (by (with_reducible repeat (first | refine blk_drewN ?_ _ | refine blk_drew ?_ | refine blk_alloc ?_ _)); exact BK506.out) hb); have n1_ := Aside0.mk (blk_below (g := gb517) (o := .cells #[.string t512, .string t513, .int .i64 t514] 26 (0, 0)) (by (with_reducible repeat (first | refine blk_drewN ?_ _ | refine blk_drew ?_ | refine blk_alloc ?_ _)); exact BK517.out) hb); have n2_ := Aside0.mk (blk_below (g := gb523) (o := .cells #[.string t518, .string t519, .int .i64 t520] 26 (0, 0)) (by (with_reducible repeat (first | refine blk_drewN ?_ _ | refine blk_drew ?_ | refine blk_alloc ?_ _)); exact BK523.out) hb); have n3_ := Aside0.mk (blk_below (g := gb529) (o := .cells #[.string t524, .string t525, .int .i64 t526] 26 (0, 0)) (by (with_reducible repeat (first | refine blk_drewN ?_ _ | refine blk_drew ?_ | refine blk_alloc ?_ _)); exact BK529.out) hb); have n4_ := Aside0.mk (below_step (by repeat (first | (with_reducible first | exact HB.out | apply below_alloc | apply pw_below_drewN | apply below_drew1 | refine below_set ?_ GE506.out | refine below_set ?_ GE517.out | refine below_set ?_ GE523.out | refine below_set ?_ GE529.out) | exact HB.out)) hb); clear BK506; clear BK517; clear BK523; clear BK529; clear HB; have BK506 := n0_; have BK517 := n1_; have BK523 := n2_; have BK529 := n3_; have HB := n4_; clear n0_ n1_ n2_ n3_ n4_; (try clear hb); (try clear hb2); (try clear hk); (try clear hi)) | ((with_reducible refine gate_dst (N := 19) rfl ?_); refine box_event ?hg (N := 19) ?hd (cs := #[.string (⟨#[]⟩ : ByteArray), .string (⟨#[]⟩ : ByteArray), .int .i64 0]) (t := 26) ?hr ?_; (case hd => rfl); (case hg => rfl); (case hr => first | (go_simp; done) | (go_simp; rfl)); intro gb534 hg w70 hbox hb; have n0_ := Aside0.mk (blk_below (g := gb506) (o := .cells #[.string t504, .string t505] 40 (0, 0)) (by (with_reducible repeat (first | refine blk_drewN ?_ _ | refine blk_drew ?_ | refine blk_alloc ?_ _)); exact BK506.out) hb); have n1_ := Aside0.mk (blk_below (g := gb517) (o := .cells #[.string t512, .string t513, .int .i64 t514] 26 (0, 0)) (by (with_reducible repeat (first | refine blk_drewN ?_ _ | refine blk_drew ?_ | refine blk_alloc ?_ _)); exact BK517.out) hb); have n2_ := Aside0.mk (blk_below (g := gb523) (o := .cells #[.string t518, .string t519, .int .i64 t520] 26 (0, 0)) (by (with_reducible repeat (first | refine blk_drewN ?_ _ | refine blk_drew ?_ | refine blk_alloc ?_ _)); exact BK523.out) hb); have n3_ := Aside0.mk (blk_below (g := gb529) (o := .cells #[.string t524, .string t525, .int .i64 t526] 26 (0, 0)) (by (with_reducible repeat (first | refine blk_drewN ?_ _ | refine blk_drew ?_ | refine blk_alloc ?_ _)); exact BK529.out) hb); have n4_ := Aside0.mk (below_step (by repeat (first | (with_reducible first | exact HB.out | apply below_alloc | apply pw_below_drewN | apply below_drew1 | refine below_set ?_ GE506.out | refine below_set ?_ GE517.out | refine below_set ?_ GE523.out | refine below_set ?_ GE529.out) | exact HB.out)) hb); have n5_ := Aside0.mk (hbox); have n6_ := Aside0.mk ((by rw [hg]; exact (below_size (by repeat (first | (with_reducible first | exact HB.out | apply below_alloc | apply pw_below_drewN | apply below_drew1 | refine below_set ?_ GE506.out | refine below_set ?_ GE517.out | refine below_set ?_ GE523.out | refine below_set ?_ GE529.out) | exact HB.out))) : w.heap.size ≤ gb534)); have n7_ := Aside0.mk ((by rw [hg]; exact (below_size (by repeat (first | (with_reducible first | exact HB.out | apply below_alloc | apply pw_below_drewN | apply below_drew1 | refine below_set ?_ GE506.out | refine below_set ?_ GE517.out | refine below_set ?_ GE523.out | refine below_set ?_ GE529.out) | exact HB.out))) : w.heap.size ≤ gb534)); have n8_ := Aside0.mk ((by rw [hg]; exact Nat.ne_of_lt (blk_lt (g := gb506) (o := .cells #[.string t504, .string t505] 40 (0, 0)) (by (with_reducible repeat (first | refine blk_drewN ?_ _ | refine blk_drew ?_ | refine blk_alloc ?_ _)); exact BK506.out)) : gb506 ≠ gb534)); have n9_ := Aside0.mk ((by rw [hg]; exact Nat.ne_of_gt (blk_lt (g := gb506) (o := .cells #[.string t504, .string t505] 40 (0, 0)) (by (with_reducible repeat (first | refine blk_drewN ?_ _ | refine blk_drew ?_ | refine blk_alloc ?_ _)); exact BK506.out)) : gb534 ≠ gb506)); have n10_ := Aside0.mk ((by rw [hg]; exact Nat.ne_of_lt (blk_lt (g := gb517) (o := .cells #[.string t512, .string t513, .int .i64 t514] 26 (0, 0)) (by (with_reducible repeat (first | refine blk_drewN ?_ _ | refine blk_drew ?_ | refine blk_alloc ?_ _)); exact BK517.out)) : gb517 ≠ gb534)); have n11_ := Aside0.mk ((by rw [hg]; exact Nat.ne_of_gt (blk_lt (g := gb517) (o := .cells #[.string t512, .string t513, .int .i64 t514] 26 (0, 0)) (by (with_reducible repeat (first | refine blk_drewN ?_ _ | refine blk_drew ?_ | refine blk_alloc ?_ _)); exact BK517.out)) : gb534 ≠ gb517)); have n12_ := Aside0.mk ((by rw [hg]; exact Nat.ne_of_lt (blk_lt (g := gb523) (o := .cells #[.string t518, .string t519, .int .i64 t520] 26 (0, 0)) (by (with_reducible repeat (first | refine blk_drewN ?_ _ | refine blk_drew ?_ | refine blk_alloc ?_ _)); exact BK523.out)) : gb523 ≠ gb534)); have n13_ := Aside0.mk ((by rw [hg]; exact Nat.ne_of_gt (blk_lt (g := gb523) (o := .cells #[.string t518, .string t519, .int .i64 t520] 26 (0, 0)) (by (with_reducible repeat (first | refine blk_drewN ?_ _ | refine blk_drew ?_ | refine blk_alloc ?_ _)); exact BK523.out)) : gb534 ≠ gb523)); have n14_ := Aside0.mk ((by rw [hg]; exact Nat.ne_of_lt (blk_lt (g := gb529) (o := .cells #[.string t524, .string t525, .int .i64 t526] 26 (0, 0)) (by (with_reducible repeat (first | refine blk_drewN ?_ _ | refine blk_drew ?_ | refine blk_alloc ?_ _)); exact BK529.out)) : gb529 ≠ gb534)); have n15_ := Aside0.mk ((by rw [hg]; exact Nat.ne_of_gt (blk_lt (g := gb529) (o := .cells #[.string t524, .string t525, .int .i64 t526] 26 (0, 0)) (by (with_reducible repeat (first | refine blk_drewN ?_ _ | refine blk_drew ?_ | refine blk_alloc ?_ _)); exact BK529.out)) : gb534 ≠ gb529)); clear BK506; clear BK517; clear BK523; clear BK529; clear HB; have BK506 := n0_; have BK517 := n1_; have BK523 := n2_; have BK529 := n3_; have HB := n4_; have BK534 := n5_; have GW534 := n6_; have GE534 := n7_; have NB506_534 := n8_; have NB534_506 := n9_; have NB517_534 := n10_; have NB534_517 := n11_; have NB523_534 := n12_; have NB534_523 := n13_; have NB529_534 := n14_; have NB534_529 := n15_; clear n0_ n1_ n2_ n3_ n4_ n5_ n6_ n7_ n8_ n9_ n10_ n11_ n12_ n13_ n14_ n15_; clear hb hbox hg; have hnb71 := NB534_506.out; have hnc71 := NB506_534.out; have hnb72 := NB534_517.out; have hnc72 := NB517_534.out; have hnb73 := NB534_523.out; have hnc73 := NB523_534.out; have hnb74 := NB534_529.out; have hnc74 := NB529_534.out; have hcz75_0 : w70.cell? ⟨gb534, 0, none⟩ = some (.string (⟨#[]⟩ : ByteArray)) := (blk_cell BK534.out 0).trans rfl; have hcz75_1 : w70.cell? ⟨gb534, 1, none⟩ = some (.string (⟨#[]⟩ : ByteArray)) := (blk_cell BK534.out 1).trans rfl; have hcz75_2 : w70.cell? ⟨gb534, 2, none⟩ = some (.int .i64 0) := (blk_cell BK534.out 2).trans rfl; have hfz75_0 := blk_frozen BK534.out 0; have hfz75_1 := blk_frozen BK534.out 1; have hfz75_2 := blk_frozen BK534.out 2))
                (try simp only [Act.put, List.setIfInBounds_toArray, List.set_cons_zero, List.set_cons_succ])
                go_cut [2] (fun v2 wc => ∃ (kq : Nat) (x2_63 : Bool), v2 = .bool x2_63 ∧ Aside0 (laws_FnLogLines.j2 kq x2_63 = some r) ∧ Aside0 (kq ≤ kj47) ∧ Aside0 (wc.heap[gb506]? = some (.cells #[.string t504, .string t505] 40 (0, 0))) ∧ Aside0 (wc.heap[gb517]? = some (.cells #[.string t512, .string t513, .int .i64 t514] 26 (0, 0))) ∧ Aside0 (wc.heap[gb523]? = some (.cells #[.string t518, .string t519, .int .i64 t520] 26 (0, 0))) ∧ Aside0 (wc.heap[gb529]? = some (.cells #[.string t524, .string t525, .int .i64 t526] 26 (0, 0))) ∧ Aside0 (wc.heap[gb534]? = some (.cells #[.string t530, .string t531, .int .i64 t532] 26 (0, 0))) ∧ Aside0 (Below w.heap.size w wc))
                case first =>
                  have H := HC64.out
                  clear HC64
                  by_cases c76 : t516 = true
                  · subst c76
                    have H1 : (if t533 = true then (if (t530.toList == t512.toList && (t531.toList == t513.toList && (t532 == t514))) = true then ((impl_IsValidLog.f kj47 t512 t513 t514).bind fun t535 => (if t535 = true then (if t508 = true then (laws_FnLogLines.j2 kj47 true) else (laws_FnLogLines.j2 kj47 (t507.toList == ([] : List UInt8)))) else (laws_FnLogLines.j2 kj47 false))) else (laws_FnLogLines.j2 kj47 false)) else (laws_FnLogLines.j2 kj47 false)) = some r := by rw [if_pos rfl] at H; exact H
                    clear H
                    have H := H1
                    clear H1
                    by_cases c77 : t533 = true
                    · subst c77
                      have H1 : (if (t530.toList == t512.toList && (t531.toList == t513.toList && (t532 == t514))) = true then ((impl_IsValidLog.f kj47 t512 t513 t514).bind fun t535 => (if t535 = true then (if t508 = true then (laws_FnLogLines.j2 kj47 true) else (laws_FnLogLines.j2 kj47 (t507.toList == ([] : List UInt8)))) else (laws_FnLogLines.j2 kj47 false))) else (laws_FnLogLines.j2 kj47 false)) = some r := by rw [if_pos rfl] at H; exact H
                      clear H
                      have H := H1
                      clear H1
                      by_cases c78 : (t530.toList == t512.toList && (t531.toList == t513.toList && (t532 == t514))) = true
                      · rw [if_pos c78] at H
                        have c78b0 : (t530.toList == t512.toList && (t531.toList == t513.toList && (t532 == t514))) = true := c78
                        (try (have c78b1 : decide (t530.toList = t512.toList && (t531.toList == t513.toList && (t532 == t514))) = true := by simpa using c78))
                        (try (have c78b2 : (t530.toList == t512.toList && (t531.toList == t513.toList && (t532 == t514))) = true := by simpa using c78))
                        clear c78
                        (first | rw [c78b0] | (simp only [i64_w, i32_w]; rw [c78b0]) | skip)
                        replace H := Option.bind_eq_some_iff.mp H
                        obtain ⟨t535, A790, H⟩ := H
                        replace H : (if t535 = true then (if t508 = true then (laws_FnLogLines.j2 kj47 true) else (laws_FnLogLines.j2 kj47 (t507.toList == ([] : List UInt8)))) else (laws_FnLogLines.j2 kj47 false)) = some r := H
                        have A79 := Aside0.mk A790
                        clear A790
                        by_cases c80 : t535 = true
                        · subst c80
                          have H1 : (if t508 = true then (laws_FnLogLines.j2 kj47 true) else (laws_FnLogLines.j2 kj47 (t507.toList == ([] : List UInt8)))) = some r := by rw [if_pos rfl] at H; exact H
                          clear H
                          have H := H1
                          clear H1
                          by_cases c81 : t508 = true
                          · subst c81
                            have H1 : (laws_FnLogLines.j2 kj47 true) = some r := by rw [if_pos rfl] at H; exact H
                            clear H
                            have H := H1
                            clear H1
                            have H' := Aside0.mk H
                            clear H
                            have hnb82 := NB534_506.out
                            have hnc82 := NB506_534.out
                            have hnb83 := NB534_517.out
                            have hnc83 := NB517_534.out
                            have hnb84 := NB534_523.out
                            have hnc84 := NB523_534.out
                            have hnb85 := NB534_529.out
                            have hnc85 := NB529_534.out
                            have hcz86_0 : w70.cell? ⟨gb534, 0, none⟩ = some (.string (⟨#[]⟩ : ByteArray)) := (blk_cell BK534.out 0).trans rfl
                            have hcz86_1 : w70.cell? ⟨gb534, 1, none⟩ = some (.string (⟨#[]⟩ : ByteArray)) := (blk_cell BK534.out 1).trans rfl
                            have hcz86_2 : w70.cell? ⟨gb534, 2, none⟩ = some (.int .i64 0) := (blk_cell BK534.out 2).trans rfl
                            have hfz86_0 := blk_frozen BK534.out 0
                            have hfz86_1 := blk_frozen BK534.out 1
                            have hfz86_2 := blk_frozen BK534.out 2
                            have hnb87 := NB517_506.out
                            have hnc87 := NB506_517.out
                            have hnb88 := NB517_523.out
                            have hnc88 := NB523_517.out
                            have hnb89 := NB517_529.out
                            have hnc89 := NB529_517.out
                            have hcz90_0 : w70.cell? ⟨gb517, 0, none⟩ = some (.string t512) := (blk_cell BK517.out 0).trans rfl
                            have hcz90_1 : w70.cell? ⟨gb517, 1, none⟩ = some (.string t513) := (blk_cell BK517.out 1).trans rfl
                            have hcz90_2 : w70.cell? ⟨gb517, 2, none⟩ = some (.int .i64 t514) := (blk_cell BK517.out 2).trans rfl
                            have hfz90_0 := blk_frozen BK517.out 0
                            have hfz90_1 := blk_frozen BK517.out 1
                            have hfz90_2 := blk_frozen BK517.out 2
                            go_wp2_with (first | (go_at_call 14; (with_reducible refine (impl_IsValidLog.calls kj47 t512 t513 t514 true _ ?side1 A79.out).mono ?_); (case side1 => exact Gl.below HG.out (by repeat (first | (with_reducible first | exact HB.out | apply below_alloc | apply pw_below_drewN | apply below_drew1 | refine below_set ?_ GE506.out | refine below_set ?_ GE517.out | refine below_set ?_ GE523.out | refine below_set ?_ GE529.out | refine below_set ?_ GE534.out) | exact HB.out))); rintro e w91 ⟨rfl, hb⟩; have n0_ := Aside0.mk (blk_below (g := gb506) (o := .cells #[.string t504, .string t505] 40 (0, 0)) (by (with_reducible repeat (first | refine blk_drewN ?_ _ | refine blk_drew ?_ | refine blk_alloc ?_ _)); refine blk_far ?_ NB506_534.out _; (with_reducible repeat (first | refine blk_drewN ?_ _ | refine blk_drew ?_ | refine blk_alloc ?_ _)); refine blk_far ?_ NB506_534.out _; (with_reducible repeat (first | refine blk_drewN ?_ _ | refine blk_drew ?_ | refine blk_alloc ?_ _)); refine blk_far ?_ NB506_534.out _; (with_reducible repeat (first | refine blk_drewN ?_ _ | refine blk_drew ?_ | refine blk_alloc ?_ _)); exact BK506.out) hb); have n1_ := Aside0.mk (blk_below (g := gb517) (o := .cells #[.string t512, .string t513, .int .i64 t514] 26 (0, 0)) (by (with_reducible repeat (first | refine blk_drewN ?_ _ | refine blk_drew ?_ | refine blk_alloc ?_ _)); refine blk_far ?_ NB517_534.out _; (with_reducible repeat (first | refine blk_drewN ?_ _ | refine blk_drew ?_ | refine blk_alloc ?_ _)); refine blk_far ?_ NB517_534.out _; (with_reducible repeat (first | refine blk_drewN ?_ _ | refine blk_drew ?_ | refine blk_alloc ?_ _)); refine blk_far ?_ NB517_534.out _; (with_reducible repeat (first | refine blk_drewN ?_ _ | refine blk_drew ?_ | refine blk_alloc ?_ _)); exact BK517.out) hb); have n2_ := Aside0.mk (blk_below (g := gb523) (o := .cells #[.string t518, .string t519, .int .i64 t520] 26 (0, 0)) (by (with_reducible repeat (first | refine blk_drewN ?_ _ | refine blk_drew ?_ | refine blk_alloc ?_ _)); refine blk_far ?_ NB523_534.out _; (with_reducible repeat (first | refine blk_drewN ?_ _ | refine blk_drew ?_ | refine blk_alloc ?_ _)); refine blk_far ?_ NB523_534.out _; (with_reducible repeat (first | refine blk_drewN ?_ _ | refine blk_drew ?_ | refine blk_alloc ?_ _)); refine blk_far ?_ NB523_534.out _; (with_reducible repeat (first | refine blk_drewN ?_ _ | refine blk_drew ?_ | refine blk_alloc ?_ _)); exact BK523.out) hb); have n3_ := Aside0.mk (blk_below (g := gb529) (o := .cells #[.string t524, .string t525, .int .i64 t526] 26 (0, 0)) (by (with_reducible repeat (first | refine blk_drewN ?_ _ | refine blk_drew ?_ | refine blk_alloc ?_ _)); refine blk_far ?_ NB529_534.out _; (with_reducible repeat (first | refine blk_drewN ?_ _ | refine blk_drew ?_ | refine blk_alloc ?_ _)); refine blk_far ?_ NB529_534.out _; (with_reducible repeat (first | refine blk_drewN ?_ _ | refine blk_drew ?_ | refine blk_alloc ?_ _)); refine blk_far ?_ NB529_534.out _; (with_reducible repeat (first | refine blk_drewN ?_ _ | refine blk_drew ?_ | refine blk_alloc ?_ _)); exact BK529.out) hb); have n4_ := Aside0.mk (blk_below (g := gb534) (o := .cells #[.string t530, .string t531, .int .i64 t532] 26 (0, 0)) (by (with_reducible repeat (first | refine blk_drewN ?_ _ | refine blk_drew ?_ | refine blk_alloc ?_ _)); refine blk_put (cs := #[.string t530, .string t531, .int .i64 0]) ?_ 2 _ rfl; (with_reducible repeat (first | refine blk_drewN ?_ _ | refine blk_drew ?_ | refine blk_alloc ?_ _)); refine blk_put (cs := #[.string t530, .string (⟨#[]⟩ : ByteArray), .int .i64 0]) ?_ 1 _ rfl; (with_reducible repeat (first | refine blk_drewN ?_ _ | refine blk_drew ?_ | refine blk_alloc ?_ _)); refine blk_put (cs := #[.string (⟨#[]⟩ : ByteArray), .string (⟨#[]⟩ : ByteArray), .int .i64 0]) ?_ 0 _ rfl; (with_reducible repeat (first | refine blk_drewN ?_ _ | refine blk_drew ?_ | refine blk_alloc ?_ _)); exact BK534.out) hb); have n5_ := Aside0.mk (below_step (by repeat (first | (with_reducible first | exact HB.out | apply below_alloc | apply pw_below_drewN | apply below_drew1 | refine below_set ?_ GE506.out | refine below_set ?_ GE517.out | refine below_set ?_ GE523.out | refine below_set ?_ GE529.out | refine below_set ?_ GE534.out) | exact HB.out)) hb); clear BK506; clear BK517; clear BK523; clear BK529; clear BK534; clear HB; have BK506 := n0_; have BK517 := n1_; have BK523 := n2_; have BK529 := n3_; have BK534 := n4_; have HB := n5_; clear n0_ n1_ n2_ n3_ n4_ n5_; (try clear hb); (try clear hb2); (try clear hk); (try clear hi)))
                            go_meet
                            case rel => exact ⟨_, (true), (by first | rfl | (simp; done) | (simp [*]; done)), H', ⟨by have := HJ9.out; have := HJ47.out; first | omega | exact Nat.le_refl _⟩, ⟨by (with_reducible repeat (first | refine blk_drewN ?_ _ | refine blk_drew ?_ | refine blk_alloc ?_ _)); exact BK506.out⟩, ⟨by (with_reducible repeat (first | refine blk_drewN ?_ _ | refine blk_drew ?_ | refine blk_alloc ?_ _)); exact BK517.out⟩, ⟨by (with_reducible repeat (first | refine blk_drewN ?_ _ | refine blk_drew ?_ | refine blk_alloc ?_ _)); exact BK523.out⟩, ⟨by (with_reducible repeat (first | refine blk_drewN ?_ _ | refine blk_drew ?_ | refine blk_alloc ?_ _)); exact BK529.out⟩, ⟨by (with_reducible repeat (first | refine blk_drewN ?_ _ | refine blk_drew ?_ | refine blk_alloc ?_ _)); exact BK534.out⟩, ⟨by repeat (first | (with_reducible first | exact HB.out | apply below_alloc | apply pw_below_drewN | apply below_drew1 | refine below_set ?_ GE506.out | refine below_set ?_ GE517.out | refine below_set ?_ GE523.out | refine below_set ?_ GE529.out | refine below_set ?_ GE534.out) | exact HB.out)⟩⟩
                          · replace c81 := Bool.eq_false_iff.mpr c81
                            subst c81
                            have H1 : (laws_FnLogLines.j2 kj47 (t507.toList == ([] : List UInt8))) = some r := by rw [if_neg (show ¬ (false = true) by decide)] at H; exact H
                            clear H
                            have H := H1
                            clear H1
                            have H' := Aside0.mk H
                            clear H
                            have hnb92 := NB534_506.out
                            have hnc92 := NB506_534.out
                            have hnb93 := NB534_517.out
                            have hnc93 := NB517_534.out
                            have hnb94 := NB534_523.out
                            have hnc94 := NB523_534.out
                            have hnb95 := NB534_529.out
                            have hnc95 := NB529_534.out
                            have hcz96_0 : w70.cell? ⟨gb534, 0, none⟩ = some (.string (⟨#[]⟩ : ByteArray)) := (blk_cell BK534.out 0).trans rfl
                            have hcz96_1 : w70.cell? ⟨gb534, 1, none⟩ = some (.string (⟨#[]⟩ : ByteArray)) := (blk_cell BK534.out 1).trans rfl
                            have hcz96_2 : w70.cell? ⟨gb534, 2, none⟩ = some (.int .i64 0) := (blk_cell BK534.out 2).trans rfl
                            have hfz96_0 := blk_frozen BK534.out 0
                            have hfz96_1 := blk_frozen BK534.out 1
                            have hfz96_2 := blk_frozen BK534.out 2
                            have hnb97 := NB517_506.out
                            have hnc97 := NB506_517.out
                            have hnb98 := NB517_523.out
                            have hnc98 := NB523_517.out
                            have hnb99 := NB517_529.out
                            have hnc99 := NB529_517.out
                            have hcz100_0 : w70.cell? ⟨gb517, 0, none⟩ = some (.string t512) := (blk_cell BK517.out 0).trans rfl
                            have hcz100_1 : w70.cell? ⟨gb517, 1, none⟩ = some (.string t513) := (blk_cell BK517.out 1).trans rfl
                            have hcz100_2 : w70.cell? ⟨gb517, 2, none⟩ = some (.int .i64 t514) := (blk_cell BK517.out 2).trans rfl
                            have hfz100_0 := blk_frozen BK517.out 0
                            have hfz100_1 := blk_frozen BK517.out 1
                            have hfz100_2 := blk_frozen BK517.out 2
                            go_wp2_with (first | (go_at_call 14; (with_reducible refine (impl_IsValidLog.calls kj47 t512 t513 t514 true _ ?side1 A79.out).mono ?_); (case side1 => exact Gl.below HG.out (by repeat (first | (with_reducible first | exact HB.out | apply below_alloc | apply pw_below_drewN | apply below_drew1 | refine below_set ?_ GE506.out | refine below_set ?_ GE517.out | refine below_set ?_ GE523.out | refine below_set ?_ GE529.out | refine below_set ?_ GE534.out) | exact HB.out))); rintro e w101 ⟨rfl, hb⟩; have n0_ := Aside0.mk (blk_below (g := gb506) (o := .cells #[.string t504, .string t505] 40 (0, 0)) (by (with_reducible repeat (first | refine blk_drewN ?_ _ | refine blk_drew ?_ | refine blk_alloc ?_ _)); refine blk_far ?_ NB506_534.out _; (with_reducible repeat (first | refine blk_drewN ?_ _ | refine blk_drew ?_ | refine blk_alloc ?_ _)); refine blk_far ?_ NB506_534.out _; (with_reducible repeat (first | refine blk_drewN ?_ _ | refine blk_drew ?_ | refine blk_alloc ?_ _)); refine blk_far ?_ NB506_534.out _; (with_reducible repeat (first | refine blk_drewN ?_ _ | refine blk_drew ?_ | refine blk_alloc ?_ _)); exact BK506.out) hb); have n1_ := Aside0.mk (blk_below (g := gb517) (o := .cells #[.string t512, .string t513, .int .i64 t514] 26 (0, 0)) (by (with_reducible repeat (first | refine blk_drewN ?_ _ | refine blk_drew ?_ | refine blk_alloc ?_ _)); refine blk_far ?_ NB517_534.out _; (with_reducible repeat (first | refine blk_drewN ?_ _ | refine blk_drew ?_ | refine blk_alloc ?_ _)); refine blk_far ?_ NB517_534.out _; (with_reducible repeat (first | refine blk_drewN ?_ _ | refine blk_drew ?_ | refine blk_alloc ?_ _)); refine blk_far ?_ NB517_534.out _; (with_reducible repeat (first | refine blk_drewN ?_ _ | refine blk_drew ?_ | refine blk_alloc ?_ _)); exact BK517.out) hb); have n2_ := Aside0.mk (blk_below (g := gb523) (o := .cells #[.string t518, .string t519, .int .i64 t520] 26 (0, 0)) (by (with_reducible repeat (first | refine blk_drewN ?_ _ | refine blk_drew ?_ | refine blk_alloc ?_ _)); refine blk_far ?_ NB523_534.out _; (with_reducible repeat (first | refine blk_drewN ?_ _ | refine blk_drew ?_ | refine blk_alloc ?_ _)); refine blk_far ?_ NB523_534.out _; (with_reducible repeat (first | refine blk_drewN ?_ _ | refine blk_drew ?_ | refine blk_alloc ?_ _)); refine blk_far ?_ NB523_534.out _; (with_reducible repeat (first | refine blk_drewN ?_ _ | refine blk_drew ?_ | refine blk_alloc ?_ _)); exact BK523.out) hb); have n3_ := Aside0.mk (blk_below (g := gb529) (o := .cells #[.string t524, .string t525, .int .i64 t526] 26 (0, 0)) (by (with_reducible repeat (first | refine blk_drewN ?_ _ | refine blk_drew ?_ | refine blk_alloc ?_ _)); refine blk_far ?_ NB529_534.out _; (with_reducible repeat (first | refine blk_drewN ?_ _ | refine blk_drew ?_ | refine blk_alloc ?_ _)); refine blk_far ?_ NB529_534.out _; (with_reducible repeat (first | refine blk_drewN ?_ _ | refine blk_drew ?_ | refine blk_alloc ?_ _)); refine blk_far ?_ NB529_534.out _; (with_reducible repeat (first | refine blk_drewN ?_ _ | refine blk_drew ?_ | refine blk_alloc ?_ _)); exact BK529.out) hb); have n4_ := Aside0.mk (blk_below (g := gb534) (o := .cells #[.string t530, .string t531, .int .i64 t532] 26 (0, 0)) (by (with_reducible repeat (first | refine blk_drewN ?_ _ | refine blk_drew ?_ | refine blk_alloc ?_ _)); refine blk_put (cs := #[.string t530, .string t531, .int .i64 0]) ?_ 2 _ rfl; (with_reducible repeat (first | refine blk_drewN ?_ _ | refine blk_drew ?_ | refine blk_alloc ?_ _)); refine blk_put (cs := #[.string t530, .string (⟨#[]⟩ : ByteArray), .int .i64 0]) ?_ 1 _ rfl; (with_reducible repeat (first | refine blk_drewN ?_ _ | refine blk_drew ?_ | refine blk_alloc ?_ _)); refine blk_put (cs := #[.string (⟨#[]⟩ : ByteArray), .string (⟨#[]⟩ : ByteArray), .int .i64 0]) ?_ 0 _ rfl; (with_reducible repeat (first | refine blk_drewN ?_ _ | refine blk_drew ?_ | refine blk_alloc ?_ _)); exact BK534.out) hb); have n5_ := Aside0.mk (below_step (by repeat (first | (with_reducible first | exact HB.out | apply below_alloc | apply pw_below_drewN | apply below_drew1 | refine below_set ?_ GE506.out | refine below_set ?_ GE517.out | refine below_set ?_ GE523.out | refine below_set ?_ GE529.out | refine below_set ?_ GE534.out) | exact HB.out)) hb); clear BK506; clear BK517; clear BK523; clear BK529; clear BK534; clear HB; have BK506 := n0_; have BK517 := n1_; have BK523 := n2_; have BK529 := n3_; have BK534 := n4_; have HB := n5_; clear n0_ n1_ n2_ n3_ n4_ n5_; (try clear hb); (try clear hb2); (try clear hk); (try clear hi)))
                            go_meet
                            case rel => exact ⟨_, ((t507.toList == ([] : List UInt8))), (by first | rfl | (simp; done) | (simp [*]; done)), H', ⟨by have := HJ9.out; have := HJ47.out; first | omega | exact Nat.le_refl _⟩, ⟨by (with_reducible repeat (first | refine blk_drewN ?_ _ | refine blk_drew ?_ | refine blk_alloc ?_ _)); exact BK506.out⟩, ⟨by (with_reducible repeat (first | refine blk_drewN ?_ _ | refine blk_drew ?_ | refine blk_alloc ?_ _)); exact BK517.out⟩, ⟨by (with_reducible repeat (first | refine blk_drewN ?_ _ | refine blk_drew ?_ | refine blk_alloc ?_ _)); exact BK523.out⟩, ⟨by (with_reducible repeat (first | refine blk_drewN ?_ _ | refine blk_drew ?_ | refine blk_alloc ?_ _)); exact BK529.out⟩, ⟨by (with_reducible repeat (first | refine blk_drewN ?_ _ | refine blk_drew ?_ | refine blk_alloc ?_ _)); exact BK534.out⟩, ⟨by repeat (first | (with_reducible first | exact HB.out | apply below_alloc | apply pw_below_drewN | apply below_drew1 | refine below_set ?_ GE506.out | refine below_set ?_ GE517.out | refine below_set ?_ GE523.out | refine below_set ?_ GE529.out | refine below_set ?_ GE534.out) | exact HB.out)⟩⟩
                        · replace c80 := Bool.eq_false_iff.mpr c80
                          subst c80
                          have H1 : (laws_FnLogLines.j2 kj47 false) = some r := by rw [if_neg (show ¬ (false = true) by decide)] at H; exact H
                          clear H
                          have H := H1
                          clear H1
                          have H' := Aside0.mk H
                          clear H
                          have hnb102 := NB534_506.out
                          have hnc102 := NB506_534.out
                          have hnb103 := NB534_517.out
                          have hnc103 := NB517_534.out
                          have hnb104 := NB534_523.out
                          have hnc104 := NB523_534.out
                          have hnb105 := NB534_529.out
                          have hnc105 := NB529_534.out
                          have hcz106_0 : w70.cell? ⟨gb534, 0, none⟩ = some (.string (⟨#[]⟩ : ByteArray)) := (blk_cell BK534.out 0).trans rfl
                          have hcz106_1 : w70.cell? ⟨gb534, 1, none⟩ = some (.string (⟨#[]⟩ : ByteArray)) := (blk_cell BK534.out 1).trans rfl
                          have hcz106_2 : w70.cell? ⟨gb534, 2, none⟩ = some (.int .i64 0) := (blk_cell BK534.out 2).trans rfl
                          have hfz106_0 := blk_frozen BK534.out 0
                          have hfz106_1 := blk_frozen BK534.out 1
                          have hfz106_2 := blk_frozen BK534.out 2
                          have hnb107 := NB517_506.out
                          have hnc107 := NB506_517.out
                          have hnb108 := NB517_523.out
                          have hnc108 := NB523_517.out
                          have hnb109 := NB517_529.out
                          have hnc109 := NB529_517.out
                          have hcz110_0 : w70.cell? ⟨gb517, 0, none⟩ = some (.string t512) := (blk_cell BK517.out 0).trans rfl
                          have hcz110_1 : w70.cell? ⟨gb517, 1, none⟩ = some (.string t513) := (blk_cell BK517.out 1).trans rfl
                          have hcz110_2 : w70.cell? ⟨gb517, 2, none⟩ = some (.int .i64 t514) := (blk_cell BK517.out 2).trans rfl
                          have hfz110_0 := blk_frozen BK517.out 0
                          have hfz110_1 := blk_frozen BK517.out 1
                          have hfz110_2 := blk_frozen BK517.out 2
                          go_wp2_with (first | (go_at_call 14; (with_reducible refine (impl_IsValidLog.calls kj47 t512 t513 t514 false _ ?side1 A79.out).mono ?_); (case side1 => exact Gl.below HG.out (by repeat (first | (with_reducible first | exact HB.out | apply below_alloc | apply pw_below_drewN | apply below_drew1 | refine below_set ?_ GE506.out | refine below_set ?_ GE517.out | refine below_set ?_ GE523.out | refine below_set ?_ GE529.out | refine below_set ?_ GE534.out) | exact HB.out))); rintro e w111 ⟨rfl, hb⟩; have n0_ := Aside0.mk (blk_below (g := gb506) (o := .cells #[.string t504, .string t505] 40 (0, 0)) (by (with_reducible repeat (first | refine blk_drewN ?_ _ | refine blk_drew ?_ | refine blk_alloc ?_ _)); refine blk_far ?_ NB506_534.out _; (with_reducible repeat (first | refine blk_drewN ?_ _ | refine blk_drew ?_ | refine blk_alloc ?_ _)); refine blk_far ?_ NB506_534.out _; (with_reducible repeat (first | refine blk_drewN ?_ _ | refine blk_drew ?_ | refine blk_alloc ?_ _)); refine blk_far ?_ NB506_534.out _; (with_reducible repeat (first | refine blk_drewN ?_ _ | refine blk_drew ?_ | refine blk_alloc ?_ _)); exact BK506.out) hb); have n1_ := Aside0.mk (blk_below (g := gb517) (o := .cells #[.string t512, .string t513, .int .i64 t514] 26 (0, 0)) (by (with_reducible repeat (first | refine blk_drewN ?_ _ | refine blk_drew ?_ | refine blk_alloc ?_ _)); refine blk_far ?_ NB517_534.out _; (with_reducible repeat (first | refine blk_drewN ?_ _ | refine blk_drew ?_ | refine blk_alloc ?_ _)); refine blk_far ?_ NB517_534.out _; (with_reducible repeat (first | refine blk_drewN ?_ _ | refine blk_drew ?_ | refine blk_alloc ?_ _)); refine blk_far ?_ NB517_534.out _; (with_reducible repeat (first | refine blk_drewN ?_ _ | refine blk_drew ?_ | refine blk_alloc ?_ _)); exact BK517.out) hb); have n2_ := Aside0.mk (blk_below (g := gb523) (o := .cells #[.string t518, .string t519, .int .i64 t520] 26 (0, 0)) (by (with_reducible repeat (first | refine blk_drewN ?_ _ | refine blk_drew ?_ | refine blk_alloc ?_ _)); refine blk_far ?_ NB523_534.out _; (with_reducible repeat (first | refine blk_drewN ?_ _ | refine blk_drew ?_ | refine blk_alloc ?_ _)); refine blk_far ?_ NB523_534.out _; (with_reducible repeat (first | refine blk_drewN ?_ _ | refine blk_drew ?_ | refine blk_alloc ?_ _)); refine blk_far ?_ NB523_534.out _; (with_reducible repeat (first | refine blk_drewN ?_ _ | refine blk_drew ?_ | refine blk_alloc ?_ _)); exact BK523.out) hb); have n3_ := Aside0.mk (blk_below (g := gb529) (o := .cells #[.string t524, .string t525, .int .i64 t526] 26 (0, 0)) (by (with_reducible repeat (first | refine blk_drewN ?_ _ | refine blk_drew ?_ | refine blk_alloc ?_ _)); refine blk_far ?_ NB529_534.out _; (with_reducible repeat (first | refine blk_drewN ?_ _ | refine blk_drew ?_ | refine blk_alloc ?_ _)); refine blk_far ?_ NB529_534.out _; (with_reducible repeat (first | refine blk_drewN ?_ _ | refine blk_drew ?_ | refine blk_alloc ?_ _)); refine blk_far ?_ NB529_534.out _; (with_reducible repeat (first | refine blk_drewN ?_ _ | refine blk_drew ?_ | refine blk_alloc ?_ _)); exact BK529.out) hb); have n4_ := Aside0.mk (blk_below (g := gb534) (o := .cells #[.string t530, .string t531, .int .i64 t532] 26 (0, 0)) (by (with_reducible repeat (first | refine blk_drewN ?_ _ | refine blk_drew ?_ | refine blk_alloc ?_ _)); refine blk_put (cs := #[.string t530, .string t531, .int .i64 0]) ?_ 2 _ rfl; (with_reducible repeat (first | refine blk_drewN ?_ _ | refine blk_drew ?_ | refine blk_alloc ?_ _)); refine blk_put (cs := #[.string t530, .string (⟨#[]⟩ : ByteArray), .int .i64 0]) ?_ 1 _ rfl; (with_reducible repeat (first | refine blk_drewN ?_ _ | refine blk_drew ?_ | refine blk_alloc ?_ _)); refine blk_put (cs := #[.string (⟨#[]⟩ : ByteArray), .string (⟨#[]⟩ : ByteArray), .int .i64 0]) ?_ 0 _ rfl; (with_reducible repeat (first | refine blk_drewN ?_ _ | refine blk_drew ?_ | refine blk_alloc ?_ _)); exact BK534.out) hb); have n5_ := Aside0.mk (below_step (by repeat (first | (with_reducible first | exact HB.out | apply below_alloc | apply pw_below_drewN | apply below_drew1 | refine below_set ?_ GE506.out | refine below_set ?_ GE517.out | refine below_set ?_ GE523.out | refine below_set ?_ GE529.out | refine below_set ?_ GE534.out) | exact HB.out)) hb); clear BK506; clear BK517; clear BK523; clear BK529; clear BK534; clear HB; have BK506 := n0_; have BK517 := n1_; have BK523 := n2_; have BK529 := n3_; have BK534 := n4_; have HB := n5_; clear n0_ n1_ n2_ n3_ n4_ n5_; (try clear hb); (try clear hb2); (try clear hk); (try clear hi)))
                          go_meet
                          case rel => exact ⟨_, (false), (by first | rfl | (simp; done) | (simp [*]; done)), H', ⟨by have := HJ9.out; have := HJ47.out; first | omega | exact Nat.le_refl _⟩, ⟨by (with_reducible repeat (first | refine blk_drewN ?_ _ | refine blk_drew ?_ | refine blk_alloc ?_ _)); exact BK506.out⟩, ⟨by (with_reducible repeat (first | refine blk_drewN ?_ _ | refine blk_drew ?_ | refine blk_alloc ?_ _)); exact BK517.out⟩, ⟨by (with_reducible repeat (first | refine blk_drewN ?_ _ | refine blk_drew ?_ | refine blk_alloc ?_ _)); exact BK523.out⟩, ⟨by (with_reducible repeat (first | refine blk_drewN ?_ _ | refine blk_drew ?_ | refine blk_alloc ?_ _)); exact BK529.out⟩, ⟨by (with_reducible repeat (first | refine blk_drewN ?_ _ | refine blk_drew ?_ | refine blk_alloc ?_ _)); exact BK534.out⟩, ⟨by repeat (first | (with_reducible first | exact HB.out | apply below_alloc | apply pw_below_drewN | apply below_drew1 | refine below_set ?_ GE506.out | refine below_set ?_ GE517.out | refine below_set ?_ GE523.out | refine below_set ?_ GE529.out | refine below_set ?_ GE534.out) | exact HB.out)⟩⟩
                      · rw [if_neg c78] at H
                        have c78b0 : (t530.toList == t512.toList && (t531.toList == t513.toList && (t532 == t514))) = false := by simpa using c78
                        (try (have c78b1 : decide (t530.toList = t512.toList && (t531.toList == t513.toList && (t532 == t514))) = false := by simpa using c78))
                        (try (have c78b2 : (t530.toList == t512.toList && (t531.toList == t513.toList && (t532 == t514))) = false := by simpa using c78))
                        (try (have c78b3 : ¬ (t530.toList = t512.toList && (t531.toList == t513.toList && (t532 == t514))) := by simpa using c78))
                        clear c78
                        (first | rw [c78b0] | (simp only [i64_w, i32_w]; rw [c78b0]) | skip)
                        have H' := Aside0.mk H
                        clear H
                        have hnb112 := NB534_506.out
                        have hnc112 := NB506_534.out
                        have hnb113 := NB534_517.out
                        have hnc113 := NB517_534.out
                        have hnb114 := NB534_523.out
                        have hnc114 := NB523_534.out
                        have hnb115 := NB534_529.out
                        have hnc115 := NB529_534.out
                        have hcz116_0 : w70.cell? ⟨gb534, 0, none⟩ = some (.string (⟨#[]⟩ : ByteArray)) := (blk_cell BK534.out 0).trans rfl
                        have hcz116_1 : w70.cell? ⟨gb534, 1, none⟩ = some (.string (⟨#[]⟩ : ByteArray)) := (blk_cell BK534.out 1).trans rfl
                        have hcz116_2 : w70.cell? ⟨gb534, 2, none⟩ = some (.int .i64 0) := (blk_cell BK534.out 2).trans rfl
                        have hfz116_0 := blk_frozen BK534.out 0
                        have hfz116_1 := blk_frozen BK534.out 1
                        have hfz116_2 := blk_frozen BK534.out 2
                        have hnb117 := NB517_506.out
                        have hnc117 := NB506_517.out
                        have hnb118 := NB517_523.out
                        have hnc118 := NB523_517.out
                        have hnb119 := NB517_529.out
                        have hnc119 := NB529_517.out
                        have hcz120_0 : w70.cell? ⟨gb517, 0, none⟩ = some (.string t512) := (blk_cell BK517.out 0).trans rfl
                        have hcz120_1 : w70.cell? ⟨gb517, 1, none⟩ = some (.string t513) := (blk_cell BK517.out 1).trans rfl
                        have hcz120_2 : w70.cell? ⟨gb517, 2, none⟩ = some (.int .i64 t514) := (blk_cell BK517.out 2).trans rfl
                        have hfz120_0 := blk_frozen BK517.out 0
                        have hfz120_1 := blk_frozen BK517.out 1
                        have hfz120_2 := blk_frozen BK517.out 2
                        go_wp2
                        go_meet
                        case rel => exact ⟨_, (false), (by first | rfl | (simp; done) | (simp [*]; done)), H', ⟨by have := HJ9.out; have := HJ47.out; first | omega | exact Nat.le_refl _⟩, ⟨by (with_reducible repeat (first | refine blk_drewN ?_ _ | refine blk_drew ?_ | refine blk_alloc ?_ _)); refine blk_far ?_ NB506_534.out _; (with_reducible repeat (first | refine blk_drewN ?_ _ | refine blk_drew ?_ | refine blk_alloc ?_ _)); refine blk_far ?_ NB506_534.out _; (with_reducible repeat (first | refine blk_drewN ?_ _ | refine blk_drew ?_ | refine blk_alloc ?_ _)); refine blk_far ?_ NB506_534.out _; (with_reducible repeat (first | refine blk_drewN ?_ _ | refine blk_drew ?_ | refine blk_alloc ?_ _)); exact BK506.out⟩, ⟨by (with_reducible repeat (first | refine blk_drewN ?_ _ | refine blk_drew ?_ | refine blk_alloc ?_ _)); refine blk_far ?_ NB517_534.out _; (with_reducible repeat (first | refine blk_drewN ?_ _ | refine blk_drew ?_ | refine blk_alloc ?_ _)); refine blk_far ?_ NB517_534.out _; (with_reducible repeat (first | refine blk_drewN ?_ _ | refine blk_drew ?_ | refine blk_alloc ?_ _)); refine blk_far ?_ NB517_534.out _; (with_reducible repeat (first | refine blk_drewN ?_ _ | refine blk_drew ?_ | refine blk_alloc ?_ _)); exact BK517.out⟩, ⟨by (with_reducible repeat (first | refine blk_drewN ?_ _ | refine blk_drew ?_ | refine blk_alloc ?_ _)); refine blk_far ?_ NB523_534.out _; (with_reducible repeat (first | refine blk_drewN ?_ _ | refine blk_drew ?_ | refine blk_alloc ?_ _)); refine blk_far ?_ NB523_534.out _; (with_reducible repeat (first | refine blk_drewN ?_ _ | refine blk_drew ?_ | refine blk_alloc ?_ _)); refine blk_far ?_ NB523_534.out _; (with_reducible repeat (first | refine blk_drewN ?_ _ | refine blk_drew ?_ | refine blk_alloc ?_ _)); exact BK523.out⟩, ⟨by (with_reducible repeat (first | refine blk_drewN ?_ _ | refine blk_drew ?_ | refine blk_alloc ?_ _)); refine blk_far ?_ NB529_534.out _; (with_reducible repeat (first | refine blk_drewN ?_ _ | refine blk_drew ?_ | refine blk_alloc ?_ _)); refine blk_far ?_ NB529_534.out _; (with_reducible repeat (first | refine blk_drewN ?_ _ | refine blk_drew ?_ | refine blk_alloc ?_ _)); refine blk_far ?_ NB529_534.out _; (with_reducible repeat (first | refine blk_drewN ?_ _ | refine blk_drew ?_ | refine blk_alloc ?_ _)); exact BK529.out⟩, ⟨by (with_reducible repeat (first | refine blk_drewN ?_ _ | refine blk_drew ?_ | refine blk_alloc ?_ _)); refine blk_put (cs := #[.string t530, .string t531, .int .i64 0]) ?_ 2 _ rfl; (with_reducible repeat (first | refine blk_drewN ?_ _ | refine blk_drew ?_ | refine blk_alloc ?_ _)); refine blk_put (cs := #[.string t530, .string (⟨#[]⟩ : ByteArray), .int .i64 0]) ?_ 1 _ rfl; (with_reducible repeat (first | refine blk_drewN ?_ _ | refine blk_drew ?_ | refine blk_alloc ?_ _)); refine blk_put (cs := #[.string (⟨#[]⟩ : ByteArray), .string (⟨#[]⟩ : ByteArray), .int .i64 0]) ?_ 0 _ rfl; (with_reducible repeat (first | refine blk_drewN ?_ _ | refine blk_drew ?_ | refine blk_alloc ?_ _)); exact BK534.out⟩, ⟨by repeat (first | (with_reducible first | exact HB.out | apply below_alloc | apply pw_below_drewN | apply below_drew1 | refine below_set ?_ GE506.out | refine below_set ?_ GE517.out | refine below_set ?_ GE523.out | refine below_set ?_ GE529.out | refine below_set ?_ GE534.out) | exact HB.out)⟩⟩
                    · replace c77 := Bool.eq_false_iff.mpr c77
                      subst c77
                      have H1 : (laws_FnLogLines.j2 kj47 false) = some r := by rw [if_neg (show ¬ (false = true) by decide)] at H; exact H
                      clear H
                      have H := H1
                      clear H1
                      have H' := Aside0.mk H
                      clear H
                      go_wp2
                      go_meet
                      case rel => exact ⟨_, (false), (by first | rfl | (simp; done) | (simp [*]; done)), H', ⟨by have := HJ9.out; have := HJ47.out; first | omega | exact Nat.le_refl _⟩, ⟨by (with_reducible repeat (first | refine blk_drewN ?_ _ | refine blk_drew ?_ | refine blk_alloc ?_ _)); refine blk_far ?_ NB506_534.out _; (with_reducible repeat (first | refine blk_drewN ?_ _ | refine blk_drew ?_ | refine blk_alloc ?_ _)); refine blk_far ?_ NB506_534.out _; (with_reducible repeat (first | refine blk_drewN ?_ _ | refine blk_drew ?_ | refine blk_alloc ?_ _)); refine blk_far ?_ NB506_534.out _; (with_reducible repeat (first | refine blk_drewN ?_ _ | refine blk_drew ?_ | refine blk_alloc ?_ _)); exact BK506.out⟩, ⟨by (with_reducible repeat (first | refine blk_drewN ?_ _ | refine blk_drew ?_ | refine blk_alloc ?_ _)); refine blk_far ?_ NB517_534.out _; (with_reducible repeat (first | refine blk_drewN ?_ _ | refine blk_drew ?_ | refine blk_alloc ?_ _)); refine blk_far ?_ NB517_534.out _; (with_reducible repeat (first | refine blk_drewN ?_ _ | refine blk_drew ?_ | refine blk_alloc ?_ _)); refine blk_far ?_ NB517_534.out _; (with_reducible repeat (first | refine blk_drewN ?_ _ | refine blk_drew ?_ | refine blk_alloc ?_ _)); exact BK517.out⟩, ⟨by (with_reducible repeat (first | refine blk_drewN ?_ _ | refine blk_drew ?_ | refine blk_alloc ?_ _)); refine blk_far ?_ NB523_534.out _; (with_reducible repeat (first | refine blk_drewN ?_ _ | refine blk_drew ?_ | refine blk_alloc ?_ _)); refine blk_far ?_ NB523_534.out _; (with_reducible repeat (first | refine blk_drewN ?_ _ | refine blk_drew ?_ | refine blk_alloc ?_ _)); refine blk_far ?_ NB523_534.out _; (with_reducible repeat (first | refine blk_drewN ?_ _ | refine blk_drew ?_ | refine blk_alloc ?_ _)); exact BK523.out⟩, ⟨by (with_reducible repeat (first | refine blk_drewN ?_ _ | refine blk_drew ?_ | refine blk_alloc ?_ _)); refine blk_far ?_ NB529_534.out _; (with_reducible repeat (first | refine blk_drewN ?_ _ | refine blk_drew ?_ | refine blk_alloc ?_ _)); refine blk_far ?_ NB529_534.out _; (with_reducible repeat (first | refine blk_drewN ?_ _ | refine blk_drew ?_ | refine blk_alloc ?_ _)); refine blk_far ?_ NB529_534.out _; (with_reducible repeat (first | refine blk_drewN ?_ _ | refine blk_drew ?_ | refine blk_alloc ?_ _)); exact BK529.out⟩, ⟨by (with_reducible repeat (first | refine blk_drewN ?_ _ | refine blk_drew ?_ | refine blk_alloc ?_ _)); refine blk_put (cs := #[.string t530, .string t531, .int .i64 0]) ?_ 2 _ rfl; (with_reducible repeat (first | refine blk_drewN ?_ _ | refine blk_drew ?_ | refine blk_alloc ?_ _)); refine blk_put (cs := #[.string t530, .string (⟨#[]⟩ : ByteArray), .int .i64 0]) ?_ 1 _ rfl; (with_reducible repeat (first | refine blk_drewN ?_ _ | refine blk_drew ?_ | refine blk_alloc ?_ _)); refine blk_put (cs := #[.string (⟨#[]⟩ : ByteArray), .string (⟨#[]⟩ : ByteArray), .int .i64 0]) ?_ 0 _ rfl; (with_reducible repeat (first | refine blk_drewN ?_ _ | refine blk_drew ?_ | refine blk_alloc ?_ _)); exact BK534.out⟩, ⟨by repeat (first | (with_reducible first | exact HB.out | apply below_alloc | apply pw_below_drewN | apply below_drew1 | refine below_set ?_ GE506.out | refine below_set ?_ GE517.out | refine below_set ?_ GE523.out | refine below_set ?_ GE529.out | refine below_set ?_ GE534.out) | exact HB.out)⟩⟩
                  · replace c76 := Bool.eq_false_iff.mpr c76
                    subst c76
                    have H1 : (laws_FnLogLines.j2 kj47 true) = some r := by rw [if_neg (show ¬ (false = true) by decide)] at H; exact H
                    clear H
                    have H := H1
                    clear H1
                    have H' := Aside0.mk H
                    clear H
                    go_wp2
                    go_meet
                    case rel => exact ⟨_, (true), (by first | rfl | (simp; done) | (simp [*]; done)), H', ⟨by have := HJ9.out; have := HJ47.out; first | omega | exact Nat.le_refl _⟩, ⟨by (with_reducible repeat (first | refine blk_drewN ?_ _ | refine blk_drew ?_ | refine blk_alloc ?_ _)); refine blk_far ?_ NB506_534.out _; (with_reducible repeat (first | refine blk_drewN ?_ _ | refine blk_drew ?_ | refine blk_alloc ?_ _)); refine blk_far ?_ NB506_534.out _; (with_reducible repeat (first | refine blk_drewN ?_ _ | refine blk_drew ?_ | refine blk_alloc ?_ _)); refine blk_far ?_ NB506_534.out _; (with_reducible repeat (first | refine blk_drewN ?_ _ | refine blk_drew ?_ | refine blk_alloc ?_ _)); exact BK506.out⟩, ⟨by (with_reducible repeat (first | refine blk_drewN ?_ _ | refine blk_drew ?_ | refine blk_alloc ?_ _)); refine blk_far ?_ NB517_534.out _; (with_reducible repeat (first | refine blk_drewN ?_ _ | refine blk_drew ?_ | refine blk_alloc ?_ _)); refine blk_far ?_ NB517_534.out _; (with_reducible repeat (first | refine blk_drewN ?_ _ | refine blk_drew ?_ | refine blk_alloc ?_ _)); refine blk_far ?_ NB517_534.out _; (with_reducible repeat (first | refine blk_drewN ?_ _ | refine blk_drew ?_ | refine blk_alloc ?_ _)); exact BK517.out⟩, ⟨by (with_reducible repeat (first | refine blk_drewN ?_ _ | refine blk_drew ?_ | refine blk_alloc ?_ _)); refine blk_far ?_ NB523_534.out _; (with_reducible repeat (first | refine blk_drewN ?_ _ | refine blk_drew ?_ | refine blk_alloc ?_ _)); refine blk_far ?_ NB523_534.out _; (with_reducible repeat (first | refine blk_drewN ?_ _ | refine blk_drew ?_ | refine blk_alloc ?_ _)); refine blk_far ?_ NB523_534.out _; (with_reducible repeat (first | refine blk_drewN ?_ _ | refine blk_drew ?_ | refine blk_alloc ?_ _)); exact BK523.out⟩, ⟨by (with_reducible repeat (first | refine blk_drewN ?_ _ | refine blk_drew ?_ | refine blk_alloc ?_ _)); refine blk_far ?_ NB529_534.out _; (with_reducible repeat (first | refine blk_drewN ?_ _ | refine blk_drew ?_ | refine blk_alloc ?_ _)); refine blk_far ?_ NB529_534.out _; (with_reducible repeat (first | refine blk_drewN ?_ _ | refine blk_drew ?_ | refine blk_alloc ?_ _)); refine blk_far ?_ NB529_534.out _; (with_reducible repeat (first | refine blk_drewN ?_ _ | refine blk_drew ?_ | refine blk_alloc ?_ _)); exact BK529.out⟩, ⟨by (with_reducible repeat (first | refine blk_drewN ?_ _ | refine blk_drew ?_ | refine blk_alloc ?_ _)); refine blk_put (cs := #[.string t530, .string t531, .int .i64 0]) ?_ 2 _ rfl; (with_reducible repeat (first | refine blk_drewN ?_ _ | refine blk_drew ?_ | refine blk_alloc ?_ _)); refine blk_put (cs := #[.string t530, .string (⟨#[]⟩ : ByteArray), .int .i64 0]) ?_ 1 _ rfl; (with_reducible repeat (first | refine blk_drewN ?_ _ | refine blk_drew ?_ | refine blk_alloc ?_ _)); refine blk_put (cs := #[.string (⟨#[]⟩ : ByteArray), .string (⟨#[]⟩ : ByteArray), .int .i64 0]) ?_ 0 _ rfl; (with_reducible repeat (first | refine blk_drewN ?_ _ | refine blk_drew ?_ | refine blk_alloc ?_ _)); exact BK534.out⟩, ⟨by repeat (first | (with_reducible first | exact HB.out | apply below_alloc | apply pw_below_drewN | apply below_drew1 | refine below_set ?_ GE506.out | refine below_set ?_ GE517.out | refine below_set ?_ GE523.out | refine below_set ?_ GE529.out | refine below_set ?_ GE534.out) | exact HB.out)⟩⟩
                case rest =>
                  clear HC64
                  try clear c1
                  try clear c2
                  try clear p2
                  try clear c3
                  try clear c4
                  try clear c5
                  try clear c6
                  try clear c7
                  try clear c8
                  try clear c9
                  try clear c10
                  try clear c11
                  try clear c18
                  try clear c20
                  try clear c24
                  try clear c25
                  try clear c27
                  try clear c27b0
                  try clear c27b1
                  try clear c28
                  try clear c28b0
                  try clear c28b1
                  try clear c28b2
                  try clear c29
                  try clear c29b0
                  try clear c30
                  try clear c31
                  try clear c32
                  try clear c33
                  try clear c34
                  try clear c35
                  try clear c35b0
                  try clear c35b1
                  try clear c36
                  try clear c37
                  try clear c39
                  try clear c41
                  try clear c42
                  try clear c44
                  try clear c46
                  try clear c51
                  try clear c52
                  try clear c53
                  try clear c55
                  try clear c56
                  try clear c56b0
                  try clear c56b1
                  try clear c56b2
                  try clear c57
                  try clear c57b0
                  try clear c57b1
                  try clear c58
                  try clear c59
                  try clear c60
                  try clear c62
                  try clear c65
                  try clear c66
                  try clear c67
                  try clear c71
                  try clear c72
                  try clear c73
                  try clear c74
                  try clear c76
                  try clear c77
                  try clear c78
                  try clear c78b0
                  try clear c78b1
                  try clear c78b2
                  try clear c80
                  try clear c81
                  try clear c82
                  try clear c83
                  try clear c84
                  try clear c85
                  try clear c87
                  try clear c88
                  try clear c89
                  try clear c92
                  try clear c93
                  try clear c94
                  try clear c95
                  try clear c97
                  try clear c98
                  try clear c99
                  try clear c102
                  try clear c103
                  try clear c104
                  try clear c105
                  try clear c107
                  try clear c108
                  try clear c109
                  try clear c112
                  try clear c113
                  try clear c114
                  try clear c115
                  try clear c117
                  try clear c118
                  try clear c119
                  try clear hcz100_0
                  try clear hcz100_1
                  try clear hcz100_2
                  try clear hcz106_0
                  try clear hcz106_1
                  try clear hcz106_2
                  try clear hcz110_0
                  try clear hcz110_1
                  try clear hcz110_2
                  try clear hcz116_0
                  try clear hcz116_1
                  try clear hcz116_2
                  try clear hcz120_0
                  try clear hcz120_1
                  try clear hcz120_2
                  try clear hcz13_0
                  try clear hcz13_1
                  try clear hcz15_0
                  try clear hcz15_1
                  try clear hcz21_0
                  try clear hcz21_1
                  try clear hcz21_2
                  try clear hcz26_0
                  try clear hcz26_1
                  try clear hcz26_2
                  try clear hcz32_0
                  try clear hcz32_1
                  try clear hcz32_2
                  try clear hcz34_0
                  try clear hcz34_1
                  try clear hcz34_2
                  try clear hcz38_0
                  try clear hcz38_1
                  try clear hcz38_2
                  try clear hcz40_0
                  try clear hcz40_1
                  try clear hcz40_2
                  try clear hcz43_0
                  try clear hcz43_1
                  try clear hcz43_2
                  try clear hcz45_0
                  try clear hcz45_1
                  try clear hcz45_2
                  try clear hcz54_0
                  try clear hcz54_1
                  try clear hcz54_2
                  try clear hcz61_0
                  try clear hcz61_1
                  try clear hcz61_2
                  try clear hcz68_0
                  try clear hcz68_1
                  try clear hcz68_2
                  try clear hcz75_0
                  try clear hcz75_1
                  try clear hcz75_2
                  try clear hcz86_0
                  try clear hcz86_1
                  try clear hcz86_2
                  try clear hcz90_0
                  try clear hcz90_1
                  try clear hcz90_2
                  try clear hcz96_0
                  try clear hcz96_1
                  try clear hcz96_2
                  try clear hfz100_0
                  try clear hfz100_1
                  try clear hfz100_2
                  try clear hfz106_0
                  try clear hfz106_1
                  try clear hfz106_2
                  try clear hfz110_0
                  try clear hfz110_1
                  try clear hfz110_2
                  try clear hfz116_0
                  try clear hfz116_1
                  try clear hfz116_2
                  try clear hfz120_0
                  try clear hfz120_1
                  try clear hfz120_2
                  try clear hfz13_0
                  try clear hfz13_1
                  try clear hfz15_0
                  try clear hfz15_1
                  try clear hfz21_0
                  try clear hfz21_1
                  try clear hfz21_2
                  try clear hfz26_0
                  try clear hfz26_1
                  try clear hfz26_2
                  try clear hfz32_0
                  try clear hfz32_1
                  try clear hfz32_2
                  try clear hfz34_0
                  try clear hfz34_1
                  try clear hfz34_2
                  try clear hfz38_0
                  try clear hfz38_1
                  try clear hfz38_2
                  try clear hfz40_0
                  try clear hfz40_1
                  try clear hfz40_2
                  try clear hfz43_0
                  try clear hfz43_1
                  try clear hfz43_2
                  try clear hfz45_0
                  try clear hfz45_1
                  try clear hfz45_2
                  try clear hfz54_0
                  try clear hfz54_1
                  try clear hfz54_2
                  try clear hfz61_0
                  try clear hfz61_1
                  try clear hfz61_2
                  try clear hfz68_0
                  try clear hfz68_1
                  try clear hfz68_2
                  try clear hfz75_0
                  try clear hfz75_1
                  try clear hfz75_2
                  try clear hfz86_0
                  try clear hfz86_1
                  try clear hfz86_2
                  try clear hfz90_0
                  try clear hfz90_1
                  try clear hfz90_2
                  try clear hfz96_0
                  try clear hfz96_1
                  try clear hfz96_2
                  try clear p2
                  obtain ⟨kq, x2_63, rfl, HA, HJ63, BK506, BK517, BK523, BK529, BK534, HB⟩ := hcut
                  cases kq with
                  | zero => exact absurd HA.out (by simp [laws_FnLogLines.j2])
                  | succ kj63 =>
                    have H := HA.out
                    clear HA
                    simp only [laws_FnLogLines.j2] at H
                    obtain rfl := Option.some.inj H
                    go_wp2
                    go_ret
                    exact ⟨by first | rfl | (simp [errW_none, errW_some] <;> rfl) | (simp [*, errW_none, errW_some] <;> rfl), by repeat (first | (with_reducible first | exact HB.out | apply below_alloc | apply pw_below_drewN | apply below_drew1 | refine below_set ?_ GE506.out | refine below_set ?_ GE517.out | refine below_set ?_ GE523.out | refine below_set ?_ GE529.out | refine below_set ?_ GE534.out) | exact HB.out)⟩

/-- THE ONE PURE STATEMENT of laws_FnLogLines: yours. -/
def laws_FnLogLines.Pure : Prop := ∀ (l0 : List Int), l0.length ≤ maxLen → l0.length * 1 ≤ 140737488351232 → (∀ x ∈ l0, (Lit.int .u8 x).wf = true) → ∃ k, laws_FnLogLines.f k l0 = some true
theorem laws_FnLogLines.walk (P : laws_FnLogLines.Pure) (a0 : Option Addr) (len0 cap0 : Nat) (z0 : List Int) (w : World) (hG : Gl w) (w0 : (a0 = none ∧ len0 = 0 ∧ cap0 = 0 ∧ z0 = []) ∨ ∃ x, a0 = some x ∧ len0 ≤ cap0 ∧ cap0 ≤ maxLen ∧ z0.length = cap0 ∧ (∀ i, i < z0.length → w.cell? (x.add i) = some (.int .u8 (z0.getD i 0))) ∧ ∀ n ∈ z0, (Lit.int .u8 n).wf = true) (y0 : len0 * 1 ≤ 140737488351232) :
    Calls Tryd.prog 8 #[.slice a0 len0 cap0] w fun e w' => e = .returned (.bool true) ∧ Below w.heap.size w w' := by
  obtain ⟨l0, rfl, hr0, hm0, hw0, hc0⟩ := ReadsInt.ofRowC w0
  obtain ⟨k, h⟩ := P l0 hm0 y0 hw0
  refine (laws_FnLogLines.calls k _ _ l0 true w (Kd.C_of_reads (d := (0 : Int)) (h1 := fun _ => rfl) hr0) hc0 hG h).mono ?_
  rintro e w' ⟨rfl, hd⟩
  exact ⟨rfl, hd⟩

end

end Go.Proofs.YtokmidpeeejahaaDoor.G
