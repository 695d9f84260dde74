/- Texts of this seat, joined: what the claim's last text rests on. Some began as words of the kit's print; what is not needed is left out. -/
import Derived.Test.YtokmidpeeejahaaDoorZm3
import Derived.Test.YtokmidpeeejahaaDoorZm4
import Derived.Test.YtokmidpeeejahaaDoorZm2
-- Written by a program of this session (wip/pd.py), which calls the kit's print; externals' contracts by hand.
namespace Go.Proofs.YtokmidpeeejahaaDoor.G
open Go.Proofs.YtokmidpeeejahaaDoorQ
open Go.RowKit Go.Proofs.YtokmidpeeejahaaDoorW.PrintWords Go.Proofs.YtokmidpeeejahaaDoorW.PrintLast Go.Proofs.YtokmidpeeejahaaDoorW.PrintMore
attribute [local go_sem] max2_int min2_int max_two min_two max_three min_three max_four min_four   -- for this text's walks alone
set_option linter.unusedVariables false
set_option linter.unusedSimpArgs false

attribute [local go_sem high] eqA26 eqA40
section
attribute [local go_sem high] run_add_cat run_slice_cat run_slice_cat_h run_slice_cat_l run_slice_cat_all
/-! ### laws_FnLog: function 9 -/
mutual
def laws_FnLog.j0 : Nat → Int → Bool → ByteArray → ByteArray → Int → ByteArray → ByteArray → ByteArray → ByteArray → Int → Option (Bool)
  | 0, _, _, _, _, _, _, _, _, _, _ => none
  | k + 1, x6, x59, x581000, x581001, x581002, x582000, x582001, x587000, x587001, x587002 => if x59 = true then (some false) else (if x6 = 0 then ((impl_LogRecords.f k x587000 x587001 x587002).bind fun bt596 => ((impl_LogRecords.f k x581000 x581001 x581002).bind fun bt600 => (if x587000.size + x587001.size ≤ 9223372036854775807 then ((impl_RecoverLog.f k (cat x587000 x587001)).bind fun bt604 => ((impl_SyncLog.f k x587000 x587001 x587002).bind fun bt610 => (if bt596.2 = true then (if (bt596.1.length : Int) = (wrap64 ((bt600.1.length : Int) + 1)) then (laws_FnLog.j1 k bt596.1 bt600.1 bt604.2.2.2.1 bt604.2.2.2.2 bt610.2.2.2 (x587002 != (bt596.1.length : Int)) x582000 x582001 x587000 x587001 x587002 bt604.1 bt604.2.1 bt604.2.2.1 bt610.1 bt610.2.1 bt610.2.2.1) else (laws_FnLog.j1 k bt596.1 bt600.1 bt604.2.2.2.1 bt604.2.2.2.2 bt610.2.2.2 true x582000 x582001 x587000 x587001 x587002 bt604.1 bt604.2.1 bt604.2.2.1 bt610.1 bt610.2.1 bt610.2.2.1)) else (laws_FnLog.j1 k bt596.1 bt600.1 bt604.2.2.2.1 bt604.2.2.2.2 bt610.2.2.2 true x582000 x582001 x587000 x587001 x587002 bt604.1 bt604.2.1 bt604.2.2.1 bt610.1 bt610.2.1 bt610.2.2.1)))) else (none)))) else (some (x587000.toList == x581000.toList && (x587001.toList == x581001.toList && (x587002 == x581002)))))
def laws_FnLog.j1 : Nat → List (S40) → List (S40) → Int → Bool → Bool → Bool → ByteArray → ByteArray → ByteArray → ByteArray → Int → ByteArray → ByteArray → Int → ByteArray → ByteArray → Int → Option (Bool)
  | 0, _, _, _, _, _, _, _, _, _, _, _, _, _, _, _, _, _ => none
  | k + 1, x9, x11, x14, x15, x17, x106, x582000, x582001, x587000, x587001, x587002, x610000, x610001, x610002, x615000, x615001, x615002 => if x106 = true then (some false) else (laws_FnLog.l0 k x9 x11 x14 x15 x17 0 x582000 x582001 x587000 x587001 x587002 x610000 x610001 x610002 x615000 x615001 x615002)
def laws_FnLog.l0 : Nat → List (S40) → List (S40) → Int → Bool → Bool → Int → ByteArray → ByteArray → ByteArray → ByteArray → Int → ByteArray → ByteArray → Int → ByteArray → ByteArray → Int → Option (Bool)
  | 0, _, _, _, _, _, _, _, _, _, _, _, _, _, _, _, _, _ => none
  | k + 1, x9, x11, x14, x15, x17, x18, x582000, x582001, x587000, x587001, x587002, x610000, x610001, x610002, x615000, x615001, x615002 => if x18 < (x11.length : Int) then (if 0 ≤ x18 then (if x18 < (x9.length : Int) then (if (!((((rd_T40 x9 x18).f0).toList) == (((rd_T40 x11 x18).f0).toList)) || (!((((rd_T40 x9 x18).f1).toList) == (((rd_T40 x11 x18).f1).toList)))) = true then (some false) else (laws_FnLog.l0 k x9 x11 x14 x15 x17 (wrap64 (x18 + 1)) x582000 x582001 x587000 x587001 x587002 x610000 x610001 x610002 x615000 x615001 x615002)) else (none)) else (none)) else (if 0 ≤ (x11.length : Int) then (if (x11.length : Int) < (x9.length : Int) then (if ((((rd_T40 x9 (x11.length : Int)).f0).toList) == x582000.toList && ((((rd_T40 x9 (x11.length : Int)).f1).toList) == x582001.toList)) = true then (if x15 = true then (if x587000.size + x587001.size ≤ 9223372036854775807 then (if x14 = ((cat x587000 x587001).size : Int) then (if x17 = true then (if (x615000.toList == x610000.toList && (x615001.toList == x610001.toList && (x615002 == x610002))) = true then ((impl_IsValidLog.f k x587000 x587001 x587002).bind fun t618 => (laws_FnLog.j3 k t618)) else (laws_FnLog.j3 k false)) else (laws_FnLog.j3 k false)) else (laws_FnLog.j3 k false)) else (none)) else (laws_FnLog.j3 k false)) else (laws_FnLog.j3 k false)) else (none)) else (none))
def laws_FnLog.j3 : Nat → Bool → Option (Bool)
  | 0, _ => none
  | k + 1, x2 => some x2
end
def laws_FnLog.f (k : Nat) (l0 : List Int) : Option (Bool) := (laws_vBig.f l0).bind fun t574 => (if t574 = true then (some true) else ((spec_DrawAppendRecord.f k l0).bind fun bt575 => ((impl_AppendRecord.f k bt575.1 bt575.2.1 bt575.2.2.1 bt575.2.2.2.1 bt575.2.2.2.2).bind fun bt582 => ((spec_AppendRecord.f k bt575.1 bt575.2.1 bt575.2.2.1 bt575.2.2.2.1 bt575.2.2.2.2).bind fun bt587 => (if (!(bt582.1.toList == bt587.1.toList) || (!(bt582.2.1.toList == bt587.2.1.toList) || (!(bt582.2.2.1 == bt587.2.2.1)))) = true then (laws_FnLog.j0 k bt582.2.2.2 true bt575.1 bt575.2.1 bt575.2.2.1 bt575.2.2.2.1 bt575.2.2.2.2 bt582.1 bt582.2.1 bt582.2.2.1) else (if bt582.2.2.2 = bt587.2.2.2 then ((impl_IsValidLog.f k bt575.1 bt575.2.1 bt575.2.2.1).bind fun t592 => ((spec_IsValidLog.f k bt575.1 bt575.2.1 bt575.2.2.1).bind fun t593 => (if (t592 != t593) = true then (laws_FnLog.j0 k bt582.2.2.2 true bt575.1 bt575.2.1 bt575.2.2.1 bt575.2.2.2.1 bt575.2.2.2.2 bt582.1 bt582.2.1 bt582.2.2.1) else ((impl_IsValidRecord.f bt575.2.2.2.1 bt575.2.2.2.2).bind fun t594 => ((spec_IsValidRecord.f k bt575.2.2.2.1 bt575.2.2.2.2).bind fun t595 => (laws_FnLog.j0 k bt582.2.2.2 (t594 != t595) bt575.1 bt575.2.1 bt575.2.2.1 bt575.2.2.2.1 bt575.2.2.2.2 bt582.1 bt582.2.1 bt582.2.2.1)))))) else (laws_FnLog.j0 k bt582.2.2.2 true bt575.1 bt575.2.1 bt575.2.2.1 bt575.2.2.2.1 bt575.2.2.2.2 bt582.1 bt582.2.1 bt582.2.2.1)))))))
def laws_FnLog.T6 : Bool × List (List Nat × List Nat) := (true, [([], []), ([], []), ([0, 1], [0, 1]), ([2], [2]), ([3], [3]), ([3], [3]), ([4, 5, 3], [3, 4, 5]), ([3, 6], [3, 6]), ([7, 3], [7]), ([8], [8]), ([9, 8, 8], [8, 9]), ([8], [8]), ([11, 10, 8], [8, 11]), ([10, 12, 8], [8, 10, 12]), ([8, 13], [8, 13]), ([14, 12], [14]), ([15], [15]), ([16, 15, 15], [15, 16]), ([15], [15]), ([18, 17, 15], [15, 18]), ([17, 19, 15], [15, 17, 19]), ([15, 20], [15, 20])])
def laws_FnLog.B6 : List Nat := [0, 0, 3, 7, 15, 15, 63, 127, 255, 511, 1023, 511, 4095, 8191, 16383, 32767, 65535, 131071, 65535, 524287, 1048575, 2097151]
theorem laws_FnLog.tab6 : rtab .any (opsOf Tryd.f9 6) = laws_FnLog.T6 := by kernel_rfl
theorem laws_FnLog.bits6 : waitsOk laws_FnLog.T6.2 laws_FnLog.B6 = true := by kernel_rfl
def laws_FnLog.T19 : Bool × List (List Nat × List Nat) := (true, [([], []), ([], []), ([0, 1], [0, 1]), ([2], [2]), ([], []), ([], []), ([4, 5], [4, 5]), ([6], [6]), ([3, 7], [3, 7])])
def laws_FnLog.B19 : List Nat := [0, 0, 3, 7, 0, 0, 48, 112, 255]
theorem laws_FnLog.tab19 : rtab .any (opsOf Tryd.f9 19) = laws_FnLog.T19 := by kernel_rfl
theorem laws_FnLog.bits19 : waitsOk laws_FnLog.T19.2 laws_FnLog.B19 = true := by kernel_rfl
def laws_FnLog.T21 : Bool × List (List Nat × List Nat) := (true, [([], []), ([], []), ([1], [1]), ([0, 2], [0, 2]), ([3], [3]), ([], []), ([4, 5], [4, 5]), ([6], [6]), ([7], [7]), ([7, 8], [7, 8]), ([9, 7], [9]), ([10], [10]), ([10], [10]), ([12, 10], [10, 12]), ([10], [10]), ([14, 10], [10, 14]), ([13, 15, 10], [10, 13, 15]), ([16, 10], [10, 16]), ([11, 17, 10], [10, 11, 17]), ([10, 18], [10, 18]), ([19, 10], [19]), ([20], [20]), ([20, 21], [20, 21]), ([22, 20], [22]), ([23], [23]), ([23], [23]), ([24, 25, 23], [23, 24, 25]), ([23, 26], [23, 26]), ([27, 23], [27]), ([28], [28]), ([29, 28, 28], [28, 29]), ([28, 30], [28, 30]), ([31, 30, 0, 1, 2, 3, 4, 5, 6, 7, 8, 9, 10, 11, 12, 13, 14, 15, 16, 17, 18, 19, 20, 21, 22, 23, 24, 25, 26, 27, 28, 29, 30, 31], [31])])
def laws_FnLog.B21 : List Nat := [0, 0, 2, 7, 15, 0, 63, 127, 255, 511, 1023, 2047, 2047, 6143, 2047, 18431, 63487, 129023, 262143, 524287, 1048575, 2097151, 4194303, 8388607, 16777215, 16777215, 67108863, 134217727, 268435455, 536870911, 1073741823, 2147483647, 4294967295]
theorem laws_FnLog.tab21 : rtab .any (opsOf Tryd.f9 21) = laws_FnLog.T21 := by kernel_rfl
theorem laws_FnLog.bits21 : waitsOk laws_FnLog.T21.2 laws_FnLog.B21 = true := by kernel_rfl
set_option maxHeartbeats 8000000 in
set_option maxRecDepth 100000 in
theorem laws_FnLog.calls (k : Nat) (A0 : Option Addr) (c0 : Nat) (l0 : List Int) (r : Bool) (w : World) (hr0 : Kd.C (Kd.int .u8) w A0 l0.length l0) (hc0 : l0.length ≤ c0) (hG : Gl w) (h : laws_FnLog.f k l0 = some r) :
    Calls Tryd.prog 9 #[.slice A0 l0.length c0] w fun e w' => e = .returned (.bool r) ∧ Below w.heap.size w w' := by
  have hu26 := Tryd.underlying26
  have hu40 := Tryd.underlying40
  have HR0 := Aside0.mk hr0
  have HC0 := Aside0.mk hc0
  clear hr0 hc0
  have HG := Aside0.mk hG
  clear hG
  have HB := Aside0.mk (Below.refl w.heap.size w)
  unfold laws_FnLog.f at h
  have H := h
  clear h
  replace H := Option.bind_eq_some_iff.mp H
  obtain ⟨t574, A20, H⟩ := H
  (try dsimp only at H)
  have A2 := Aside0.mk A20
  clear A20
  by_cases c3 : t574 = true
  · subst c3
    rw [if_pos rfl] at H
    obtain rfl := Option.some.inj H
    go_enter Tryd.func9, Tryd.ntmps9
    go_wp2_with (first | ((with_reducible refine gate_callee (f := 29) rfl ?_); refine qcall 20 Tryd.func29 rfl #[.slice A0 l0.length c0] ?_; (with_reducible refine (laws_vBig.calls _ _ l0 true _ ?side1 ?side2 A2.out).mono ?_); (case side1 => exact zz24); (case side2 => exact HC0.out); rintro e w' ⟨rfl, ⟨nd, rfl⟩⟩; refine ⟨_, rfl, ?_⟩))
    go_ret
    exact ⟨zz7, zz20⟩
  replace c3 := Bool.eq_false_iff.mpr c3
  subst c3
  rw [if_neg (show ¬ (false = true) by decide)] at H
  replace H := Option.bind_eq_some_iff.mp H
  obtain ⟨⟨t575, t576, t577, t578, t579⟩, A40, H⟩ := H
  (try dsimp only at H)
  have A4 := Aside0.mk A40
  clear A40
  replace H := Option.bind_eq_some_iff.mp H
  obtain ⟨⟨t582, t583, t584, t585⟩, A50, H⟩ := H
  (try dsimp only at H)
  have A5 := Aside0.mk A50
  clear A50
  replace H := Option.bind_eq_some_iff.mp H
  obtain ⟨⟨t587, t588, t589, t590⟩, A60, H⟩ := H
  (try dsimp only at H)
  have A6 := Aside0.mk A60
  clear A60
  have HC7 := Aside0.mk H
  clear H
  go_enter Tryd.func9, Tryd.ntmps9
  go_upto_region 6 with (first | ((with_reducible refine gate_callee (f := 29) rfl ?_); refine qcall 20 Tryd.func29 rfl #[.slice A0 l0.length c0] ?_; (with_reducible refine (laws_vBig.calls _ _ l0 false _ ?side1 ?side2 A2.out).mono ?_); (case side1 => exact zz24); (case side2 => exact HC0.out); rintro e w' ⟨rfl, ⟨nd, rfl⟩⟩; refine ⟨_, rfl, ?_⟩) | ((with_reducible refine gate_callee (f := 36) rfl ?_); refine qcall 23 Tryd.func36 rfl #[.slice A0 l0.length c0] ?_; (with_reducible refine (spec_DrawAppendRecord.calls k _ _ l0 t575 t576 t577 t578 t579 _ ?side1 ?side2 A4.out).mono ?_); (case side1 => exact zz24); (case side2 => exact HC0.out); rintro e w8 ⟨rfl, hb⟩; refine ⟨_, rfl, ?_⟩; refine qs1 (below_step zz20 hb) ?_; clear HB; intro HB; (try clear hb); (try clear hb2); (try clear hk); (try clear hi)) | ((with_reducible refine gate_dst (N := 3) rfl ?_); (try (refine gate_guard (by rfl) ?_; dsimp only)); refine qbox (N := 3) (cs := #[.string (⟨#[]⟩ : ByteArray), .string (⟨#[]⟩ : ByteArray), .int .i64 0]) (t := 26) ?_; intro gb580 hg w9 hbox hb; refine qs4 (below_step zz20 hb) (hbox) ((zz119 : w.heap.size ≤ gb580)) ((zz119 : w.heap.size ≤ gb580)) ?_; clear HB; intro HB BK580 GW580 GE580; clear hb hbox hg) | ((with_reducible refine gate_dst (N := 4) rfl ?_); (try (refine gate_guard (by rfl) ?_; dsimp only)); refine qbox (N := 4) (cs := #[.string (⟨#[]⟩ : ByteArray), .string (⟨#[]⟩ : ByteArray)]) (t := 40) ?_; intro gb581 hg w10 hbox hb; refine qs7 (blk_below (qb BK580.out) hb) (below_step zz43 hb) (hbox) ((by rw [hg]; exact (below_size zz43) : w.heap.size ≤ gb581)) ((by rw [hg]; exact (below_size zz43) : w.heap.size ≤ gb581)) ((by rw [hg]; exact Nat.ne_of_lt (blk_lt (qb BK580.out)) : gb580 ≠ gb581)) ((by rw [hg]; exact Nat.ne_of_gt (blk_lt (qb BK580.out)) : gb581 ≠ gb580)) ?_; clear BK580 HB; intro BK580 HB BK581 GW581 GE581 NB580_581 NB581_580; clear hb hbox hg; have hnb11 := NB580_581.out; have hnc11 := NB581_580.out; obtain ⟨hcz12_0, hcz12_1, hcz12_2, hfz12_0, hfz12_1, hfz12_2⟩ := qc3 BK580.out; obtain ⟨hcz13_0, hcz13_1, hfz13_0, hfz13_1⟩ := qc2 BK581.out) | ((with_reducible refine gate_callee (f := 23) rfl ?_); refine qcall 29 Tryd.func23 rfl #[.agg #[.string t575, .string t576, .int .i64 t577], .agg #[.string t578, .string t579]] ?_; (with_reducible refine (impl_AppendRecord.calls k t575 t576 t577 t578 t579 t582 t583 t584 t585 _ ?side1 A5.out).mono ?_); (case side1 => exact Gl.below HG.out zz55); rintro e w14 ⟨rfl, hb⟩; refine ⟨_, rfl, ?_⟩; refine qs3 (blk_below (g := gb580) (o := .cells #[.string t575, .string t576, .int .i64 t577] 26 (0, 0)) (by (with_reducible repeat (first | refine blk_drewN ?_ _ | refine blk_drew ?_ | refine blk_alloc ?_ _)); refine blk_far ?_ NB580_581.out _; (with_reducible repeat (first | refine blk_drewN ?_ _ | refine blk_drew ?_ | refine blk_alloc ?_ _)); refine blk_far ?_ NB580_581.out _; (with_reducible repeat (first | refine blk_drewN ?_ _ | refine blk_drew ?_ | refine blk_alloc ?_ _)); refine blk_put (cs := #[.string t575, .string t576, .int .i64 0]) ?_ 2 _ rfl; (with_reducible repeat (first | refine blk_drewN ?_ _ | refine blk_drew ?_ | refine blk_alloc ?_ _)); refine blk_put (cs := #[.string t575, .string (⟨#[]⟩ : ByteArray), .int .i64 0]) ?_ 1 _ rfl; (with_reducible repeat (first | refine blk_drewN ?_ _ | refine blk_drew ?_ | refine blk_alloc ?_ _)); refine blk_put (cs := #[.string (⟨#[]⟩ : ByteArray), .string (⟨#[]⟩ : ByteArray), .int .i64 0]) ?_ 0 _ rfl; (with_reducible repeat (first | refine blk_drewN ?_ _ | refine blk_drew ?_ | refine blk_alloc ?_ _)); exact BK580.out) hb) (blk_below (g := gb581) (o := .cells #[.string t578, .string t579] 40 (0, 0)) (by (with_reducible repeat (first | refine blk_drewN ?_ _ | refine blk_drew ?_ | refine blk_alloc ?_ _)); refine blk_put (cs := #[.string t578, .string (⟨#[]⟩ : ByteArray)]) ?_ 1 _ rfl; (with_reducible repeat (first | refine blk_drewN ?_ _ | refine blk_drew ?_ | refine blk_alloc ?_ _)); refine blk_put (cs := #[.string (⟨#[]⟩ : ByteArray), .string (⟨#[]⟩ : ByteArray)]) ?_ 0 _ rfl; (with_reducible repeat (first | refine blk_drewN ?_ _ | refine blk_drew ?_ | refine blk_alloc ?_ _)); refine blk_far ?_ NB581_580.out _; (with_reducible repeat (first | refine blk_drewN ?_ _ | refine blk_drew ?_ | refine blk_alloc ?_ _)); refine blk_far ?_ NB581_580.out _; (with_reducible repeat (first | refine blk_drewN ?_ _ | refine blk_drew ?_ | refine blk_alloc ?_ _)); refine blk_far ?_ NB581_580.out _; (with_reducible repeat (first | refine blk_drewN ?_ _ | refine blk_drew ?_ | refine blk_alloc ?_ _)); exact BK581.out) hb) (below_step zz55 hb) ?_; clear BK580 BK581 HB; intro BK580 BK581 HB; (try clear hb); (try clear hb2); (try clear hk); (try clear hi)) | ((with_reducible refine gate_dst (N := 5) rfl ?_); (try (refine gate_guard (by rfl) ?_; dsimp only)); refine qbox (N := 5) (cs := #[.string (⟨#[]⟩ : ByteArray), .string (⟨#[]⟩ : ByteArray), .int .i64 0]) (t := 26) ?_; intro gb586 hg w15 hbox hb; refine qs10 (blk_below (qb BK580.out) hb) (blk_below (qb BK581.out) hb) (below_step zz55 hb) (hbox) ((by rw [hg]; exact (below_size zz55) : w.heap.size ≤ gb586)) ((by rw [hg]; exact (below_size zz55) : w.heap.size ≤ gb586)) ((by rw [hg]; exact Nat.ne_of_lt (blk_lt (qb BK580.out)) : gb580 ≠ gb586)) ((by rw [hg]; exact Nat.ne_of_gt (blk_lt (qb BK580.out)) : gb586 ≠ gb580)) ((by rw [hg]; exact Nat.ne_of_lt (blk_lt (qb BK581.out)) : gb581 ≠ gb586)) ((by rw [hg]; exact Nat.ne_of_gt (blk_lt (qb BK581.out)) : gb586 ≠ gb581)) ?_; clear BK580 BK581 HB; intro BK580 BK581 HB BK586 GW586 GE586 NB580_586 NB586_580 NB581_586 NB586_581; clear hb hbox hg; have hnb16 := NB586_580.out; have hnc16 := NB580_586.out; have hnb17 := NB586_581.out; have hnc17 := NB581_586.out; obtain ⟨hcz18_0, hcz18_1, hcz18_2, hfz18_0, hfz18_1, hfz18_2⟩ := qc3 BK586.out; obtain ⟨hcz19_0, hcz19_1, hcz19_2, hfz19_0, hfz19_1, hfz19_2⟩ := qc3 BK580.out; obtain ⟨hcz20_0, hcz20_1, hfz20_0, hfz20_1⟩ := qc2 BK581.out) | ((with_reducible refine gate_callee (f := 21) rfl ?_); refine qcall 35 Tryd.func21 rfl #[.agg #[.string t575, .string t576, .int .i64 t577], .agg #[.string t578, .string t579]] ?_; (with_reducible refine (spec_AppendRecord.calls k t575 t576 t577 t578 t579 t587 t588 t589 t590 _ A6.out).mono ?_); rintro e w21 ⟨rfl, hb⟩; refine ⟨_, rfl, ?_⟩; refine qs4 (blk_below (g := gb580) (o := .cells #[.string t575, .string t576, .int .i64 t577] 26 (0, 0)) (by (with_reducible repeat (first | refine blk_drewN ?_ _ | refine blk_drew ?_ | refine blk_alloc ?_ _)); refine blk_far ?_ NB580_586.out _; (with_reducible repeat (first | refine blk_drewN ?_ _ | refine blk_drew ?_ | refine blk_alloc ?_ _)); refine blk_far ?_ NB580_586.out _; (with_reducible repeat (first | refine blk_drewN ?_ _ | refine blk_drew ?_ | refine blk_alloc ?_ _)); refine blk_far ?_ NB580_586.out _; (with_reducible repeat (first | refine blk_drewN ?_ _ | refine blk_drew ?_ | refine blk_alloc ?_ _)); exact BK580.out) hb) (blk_below (g := gb581) (o := .cells #[.string t578, .string t579] 40 (0, 0)) (by (with_reducible repeat (first | refine blk_drewN ?_ _ | refine blk_drew ?_ | refine blk_alloc ?_ _)); refine blk_far ?_ NB581_586.out _; (with_reducible repeat (first | refine blk_drewN ?_ _ | refine blk_drew ?_ | refine blk_alloc ?_ _)); refine blk_far ?_ NB581_586.out _; (with_reducible repeat (first | refine blk_drewN ?_ _ | refine blk_drew ?_ | refine blk_alloc ?_ _)); refine blk_far ?_ NB581_586.out _; (with_reducible repeat (first | refine blk_drewN ?_ _ | refine blk_drew ?_ | refine blk_alloc ?_ _)); exact BK581.out) hb) (blk_below (g := gb586) (o := .cells #[.string t582, .string t583, .int .i64 t584] 26 (0, 0)) (by (with_reducible repeat (first | refine blk_drewN ?_ _ | refine blk_drew ?_ | refine blk_alloc ?_ _)); refine blk_put (cs := #[.string t582, .string t583, .int .i64 0]) ?_ 2 _ rfl; (with_reducible repeat (first | refine blk_drewN ?_ _ | refine blk_drew ?_ | refine blk_alloc ?_ _)); refine blk_put (cs := #[.string t582, .string (⟨#[]⟩ : ByteArray), .int .i64 0]) ?_ 1 _ rfl; (with_reducible repeat (first | refine blk_drewN ?_ _ | refine blk_drew ?_ | refine blk_alloc ?_ _)); refine blk_put (cs := #[.string (⟨#[]⟩ : ByteArray), .string (⟨#[]⟩ : ByteArray), .int .i64 0]) ?_ 0 _ rfl; (with_reducible repeat (first | refine blk_drewN ?_ _ | refine blk_drew ?_ | refine blk_alloc ?_ _)); exact BK586.out) hb) (below_step zz70 hb) ?_; clear BK580 BK581 BK586 HB; intro BK580 BK581 BK586 HB; (try clear hb); (try clear hb2); (try clear hk); (try clear hi)) | ((with_reducible refine gate_dst (N := 7) rfl ?_); (try (refine gate_guard (by rfl) ?_; dsimp only)); refine qbox (N := 7) (cs := #[.string (⟨#[]⟩ : ByteArray), .string (⟨#[]⟩ : ByteArray), .int .i64 0]) (t := 26) ?_; intro gb591 hg w22 hbox hb; refine qs13 (blk_below (qb BK580.out) hb) (blk_below (qb BK581.out) hb) (blk_below (qb BK586.out) hb) (below_step zz70 hb) (hbox) ((by rw [hg]; exact (below_size zz70) : w.heap.size ≤ gb591)) ((by rw [hg]; exact (below_size zz70) : w.heap.size ≤ gb591)) ((by rw [hg]; exact Nat.ne_of_lt (blk_lt (qb BK580.out)) : gb580 ≠ gb591)) ((by rw [hg]; exact Nat.ne_of_gt (blk_lt (qb BK580.out)) : gb591 ≠ gb580)) ((by rw [hg]; exact Nat.ne_of_lt (blk_lt (qb BK581.out)) : gb581 ≠ gb591)) ((by rw [hg]; exact Nat.ne_of_gt (blk_lt (qb BK581.out)) : gb591 ≠ gb581)) ((by rw [hg]; exact Nat.ne_of_lt (blk_lt (qb BK586.out)) : gb586 ≠ gb591)) ((by rw [hg]; exact Nat.ne_of_gt (blk_lt (qb BK586.out)) : gb591 ≠ gb586)) ?_; clear BK580 BK581 BK586 HB; intro BK580 BK581 BK586 HB BK591 GW591 GE591 NB580_591 NB591_580 NB581_591 NB591_581 NB586_591 NB591_586; clear hb hbox hg; have hnb23 := NB591_580.out; have hnc23 := NB580_591.out; have hnb24 := NB591_581.out; have hnc24 := NB581_591.out; have hnb25 := NB591_586.out; have hnc25 := NB586_591.out; obtain ⟨hcz26_0, hcz26_1, hcz26_2, hfz26_0, hfz26_1, hfz26_2⟩ := qc3 BK591.out))
  (try simp only [Act.put, List.setIfInBounds_toArray, List.set_cons_zero, List.set_cons_succ])
  go_cut [59] (fun v59 wc => ∃ (kq : Nat) (x59_6 : Bool), v59 = .bool x59_6 ∧ Aside0 (laws_FnLog.j0 kq t585 x59_6 t575 t576 t577 t578 t579 t582 t583 t584 = some r) ∧ Aside0 (kq ≤ k) ∧ Aside0 (wc.heap[gb580]? = some (.cells #[.string t575, .string t576, .int .i64 t577] 26 (0, 0))) ∧ Aside0 (wc.heap[gb581]? = some (.cells #[.string t578, .string t579] 40 (0, 0))) ∧ Aside0 (wc.heap[gb586]? = some (.cells #[.string t582, .string t583, .int .i64 t584] 26 (0, 0))) ∧ Aside0 (wc.heap[gb591]? = some (.cells #[.string t587, .string t588, .int .i64 t589] 26 (0, 0))) ∧ Aside0 (Below w.heap.size w wc))
  case first =>
    have H := HC7.out
    clear HC7
    by_cases c27 : (!(t582.toList == t587.toList) || (!(t583.toList == t588.toList) || (!(t584 == t589)))) = true
    · rw [if_pos c27] at H
      have c27b0 := c27
      clear c27
      (first | rw [c27b0] | (simp only [i64_w, i32_w]; rw [c27b0]) | skip)
      have H' := Aside0.mk H
      clear H
      try go_wp2
      have n0_ : Aside0 ((((w22.setCell ⟨gb591, 0, none⟩ (.string t587)).setCell ⟨gb591, 1, none⟩ (.string t588)).setCell ⟨gb591, 2, none⟩ (.int .i64 t589)).heap[gb580]? = some (.cells #[.string t575, .string t576, .int .i64 t577] 26 (0, 0))) := ⟨zz99⟩
      have n1_ : Aside0 ((((w22.setCell ⟨gb591, 0, none⟩ (.string t587)).setCell ⟨gb591, 1, none⟩ (.string t588)).setCell ⟨gb591, 2, none⟩ (.int .i64 t589)).heap[gb581]? = some (.cells #[.string t578, .string t579] 40 (0, 0))) := ⟨zz100⟩
      have n2_ : Aside0 ((((w22.setCell ⟨gb591, 0, none⟩ (.string t587)).setCell ⟨gb591, 1, none⟩ (.string t588)).setCell ⟨gb591, 2, none⟩ (.int .i64 t589)).heap[gb586]? = some (.cells #[.string t582, .string t583, .int .i64 t584] 26 (0, 0))) := ⟨zz101⟩
      have n3_ : Aside0 ((((w22.setCell ⟨gb591, 0, none⟩ (.string t587)).setCell ⟨gb591, 1, none⟩ (.string t588)).setCell ⟨gb591, 2, none⟩ (.int .i64 t589)).heap[gb591]? = some (.cells #[.string t587, .string t588, .int .i64 t589] 26 (0, 0))) := ⟨zz113⟩
      have n4_ : Aside0 (Below w.heap.size w (((w22.setCell ⟨gb591, 0, none⟩ (.string t587)).setCell ⟨gb591, 1, none⟩ (.string t588)).setCell ⟨gb591, 2, none⟩ (.int .i64 t589))) := ⟨zz79⟩
      (try clear BK580)
      (try clear BK581)
      (try clear BK586)
      (try clear BK591)
      (try clear HB)
      generalize (((w22.setCell ⟨gb591, 0, none⟩ (.string t587)).setCell ⟨gb591, 1, none⟩ (.string t588)).setCell ⟨gb591, 2, none⟩ (.int .i64 t589)) = w28 at n0_ n1_ n2_ n3_ n4_ ⊢
      have BK580 := n0_
      have BK581 := n1_
      have BK586 := n2_
      have BK591 := n3_
      have HB := n4_
      clear n0_ n1_ n2_ n3_ n4_
      refine qs5 (blk_drew BK580.out) (blk_drew BK581.out) (blk_drew BK586.out) (blk_drew BK591.out) (below_drew1 HB.out) ?_; clear BK580 BK581 BK586 BK591 HB; intro BK580 BK581 BK586 BK591 HB
      refine start_ (n := 22) (S := fun w' => w'.cell? ⟨gb586, 0, none⟩ = some (.string t582) ∧ w'.cell? ⟨gb586, 1, none⟩ = some (.string t583) ∧ w'.cell? ⟨gb586, 2, none⟩ = some (.int .i64 t584) ∧ w'.cell? ⟨gb591, 0, none⟩ = some (.string t587) ∧ w'.cell? ⟨gb591, 1, none⟩ = some (.string t588) ∧ w'.cell? ⟨gb591, 2, none⟩ = some (.int .i64 t589)) (ds := []) #[false, false, false, false, false, false, false, false, false, false, false, false, false, false, false, false, false, false, false, false, false, false] (by kernel_rfl) rfl rfl ⟨(blk_cell BK586.out 0).trans rfl, (blk_cell BK586.out 1).trans rfl, (blk_cell BK586.out 2).trans rfl, (blk_cell BK591.out 0).trans rfl, (blk_cell BK591.out 1).trans rfl, (blk_cell BK591.out 2).trans rfl⟩ (fun hHeld => ?_); refine with_tabW laws_FnLog.tab6 laws_FnLog.bits6 (fun HT_ HW_ => ?_)
      generalize w28.drew = w29 at BK580 BK581 BK586 BK591 HB hHeld ⊢
      refine qt6 0 38 ?_; refine qt6 1 39 ?_; refine qp 2 40 ?_; refine qp 3 41 ?_; refine qu 4 42 ?_; refine qu 5 43 ?_; refine qu 6 44 ?_; refine qp 7 45 ?_; refine qp 8 46 ?_; refine qu 9 47 ?_; refine qu 10 48 ?_; refine qu 11 49 ?_; refine qu 12 50 ?_; refine qu 13 51 ?_; refine qp 14 52 ?_; refine qp 15 53 ?_; refine qu 16 54 ?_; refine qu 17 55 ?_; refine qu 18 56 ?_; refine qu 19 57 ?_; refine qu 20 58 ?_; refine qp 21 59 ?_
      refine done_ (done_of HT_.out (by kernel_rfl)) ?_
      try go_wp2
      go_meet
      case rel => exact ⟨_, (true), zz3, H', ⟨zz1⟩, ⟨zz9⟩, ⟨zz10⟩, ⟨zz11⟩, ⟨zz12⟩, ⟨zz79⟩⟩
    rw [if_neg c27] at H
    have c27b0 : (!(t582.toList == t587.toList) || (!(t583.toList == t588.toList) || (!(t584 == t589)))) = false := by simpa using c27
    clear c27
    (first | rw [c27b0] | (simp only [i64_w, i32_w]; rw [c27b0]) | skip)
    by_cases c30 : t585 = t590
    rotate_left
    · rw [if_neg c30] at H
      have c30b0 := beq_eq_false_iff_ne.mpr c30
      have c30b1 := bne_iff_ne.mpr c30
      have H' := Aside0.mk H
      clear H
      try go_wp2
      have n0_ : Aside0 ((((w22.setCell ⟨gb591, 0, none⟩ (.string t587)).setCell ⟨gb591, 1, none⟩ (.string t588)).setCell ⟨gb591, 2, none⟩ (.int .i64 t589)).heap[gb580]? = some (.cells #[.string t575, .string t576, .int .i64 t577] 26 (0, 0))) := ⟨zz99⟩
      have n1_ : Aside0 ((((w22.setCell ⟨gb591, 0, none⟩ (.string t587)).setCell ⟨gb591, 1, none⟩ (.string t588)).setCell ⟨gb591, 2, none⟩ (.int .i64 t589)).heap[gb581]? = some (.cells #[.string t578, .string t579] 40 (0, 0))) := ⟨zz100⟩
      have n2_ : Aside0 ((((w22.setCell ⟨gb591, 0, none⟩ (.string t587)).setCell ⟨gb591, 1, none⟩ (.string t588)).setCell ⟨gb591, 2, none⟩ (.int .i64 t589)).heap[gb586]? = some (.cells #[.string t582, .string t583, .int .i64 t584] 26 (0, 0))) := ⟨zz101⟩
      have n3_ : Aside0 ((((w22.setCell ⟨gb591, 0, none⟩ (.string t587)).setCell ⟨gb591, 1, none⟩ (.string t588)).setCell ⟨gb591, 2, none⟩ (.int .i64 t589)).heap[gb591]? = some (.cells #[.string t587, .string t588, .int .i64 t589] 26 (0, 0))) := ⟨zz113⟩
      have n4_ : Aside0 (Below w.heap.size w (((w22.setCell ⟨gb591, 0, none⟩ (.string t587)).setCell ⟨gb591, 1, none⟩ (.string t588)).setCell ⟨gb591, 2, none⟩ (.int .i64 t589))) := ⟨zz79⟩
      (try clear BK580)
      (try clear BK581)
      (try clear BK586)
      (try clear BK591)
      (try clear HB)
      generalize (((w22.setCell ⟨gb591, 0, none⟩ (.string t587)).setCell ⟨gb591, 1, none⟩ (.string t588)).setCell ⟨gb591, 2, none⟩ (.int .i64 t589)) = w46 at n0_ n1_ n2_ n3_ n4_ ⊢
      have BK580 := n0_
      have BK581 := n1_
      have BK586 := n2_
      have BK591 := n3_
      have HB := n4_
      clear n0_ n1_ n2_ n3_ n4_
      refine qs5 (blk_drew BK580.out) (blk_drew BK581.out) (blk_drew BK586.out) (blk_drew BK591.out) (below_drew1 HB.out) ?_; clear BK580 BK581 BK586 BK591 HB; intro BK580 BK581 BK586 BK591 HB
      refine start_ (n := 22) (S := fun w' => w'.cell? ⟨gb586, 0, none⟩ = some (.string t582) ∧ w'.cell? ⟨gb586, 1, none⟩ = some (.string t583) ∧ w'.cell? ⟨gb586, 2, none⟩ = some (.int .i64 t584) ∧ w'.cell? ⟨gb591, 0, none⟩ = some (.string t587) ∧ w'.cell? ⟨gb591, 1, none⟩ = some (.string t588) ∧ w'.cell? ⟨gb591, 2, none⟩ = some (.int .i64 t589)) (ds := []) #[false, false, false, false, false, false, false, false, false, false, false, false, false, false, false, false, false, false, false, false, false, false] (by kernel_rfl) rfl rfl ⟨(blk_cell BK586.out 0).trans rfl, (blk_cell BK586.out 1).trans rfl, (blk_cell BK586.out 2).trans rfl, (blk_cell BK591.out 0).trans rfl, (blk_cell BK591.out 1).trans rfl, (blk_cell BK591.out 2).trans rfl⟩ (fun hHeld => ?_); refine with_tabW laws_FnLog.tab6 laws_FnLog.bits6 (fun HT_ HW_ => ?_)
      generalize w46.drew = w47 at BK580 BK581 BK586 BK591 HB hHeld ⊢
      refine qt6 0 38 ?_; refine qt6 1 39 ?_; refine qp 2 40 ?_; refine qp 3 41 ?_; refine qp 4 42 ?_; refine qp 5 43 ?_; refine qp 6 44 ?_; refine qp 7 45 ?_; refine qp 8 46 ?_; refine qu 9 47 ?_; refine qu 10 48 ?_; refine qu 11 49 ?_; refine qu 12 50 ?_; refine qu 13 51 ?_; refine qp 14 52 ?_; refine qp 15 53 ?_; refine qu 16 54 ?_; refine qu 17 55 ?_; refine qu 18 56 ?_; refine qu 19 57 ?_; refine qu 20 58 ?_; refine qp 21 59 ?_
      refine done_ (done_of HT_.out (by kernel_rfl)) ?_
      try go_wp2
      go_meet
      case rel => exact ⟨_, (true), zz3, H', ⟨zz1⟩, ⟨zz9⟩, ⟨zz10⟩, ⟨zz11⟩, ⟨zz12⟩, ⟨zz79⟩⟩
    rw [if_pos c30] at H
    have c30b0 := beq_iff_eq.mpr c30
    have c30b1 := bne_eq_false_iff_eq.mpr c30
    clear c30
    replace H := Option.bind_eq_some_iff.mp H
    obtain ⟨t592, A310, H⟩ := H
    (try dsimp only at H)
    have A31 := Aside0.mk A310
    clear A310
    replace H := Option.bind_eq_some_iff.mp H
    obtain ⟨t593, A320, H⟩ := H
    (try dsimp only at H)
    have A32 := Aside0.mk A320
    clear A320
    by_cases c33 : (t592 != t593) = true
    · rw [if_pos c33] at H
      have c33b0 := c33
      (try (have c33b1 : decide (t592 = t593) = false := by simpa using c33))
      (try (have c33b2 : (t592 == t593) = false := by simpa using c33))
      (try (have c33b3 : ¬ (t592 = t593) := by simpa using c33))
      clear c33
      have H' := Aside0.mk H
      clear H
      try go_wp2
      have n0_ : Aside0 ((((w22.setCell ⟨gb591, 0, none⟩ (.string t587)).setCell ⟨gb591, 1, none⟩ (.string t588)).setCell ⟨gb591, 2, none⟩ (.int .i64 t589)).heap[gb580]? = some (.cells #[.string t575, .string t576, .int .i64 t577] 26 (0, 0))) := ⟨zz99⟩
      have n1_ : Aside0 ((((w22.setCell ⟨gb591, 0, none⟩ (.string t587)).setCell ⟨gb591, 1, none⟩ (.string t588)).setCell ⟨gb591, 2, none⟩ (.int .i64 t589)).heap[gb581]? = some (.cells #[.string t578, .string t579] 40 (0, 0))) := ⟨zz100⟩
      have n2_ : Aside0 ((((w22.setCell ⟨gb591, 0, none⟩ (.string t587)).setCell ⟨gb591, 1, none⟩ (.string t588)).setCell ⟨gb591, 2, none⟩ (.int .i64 t589)).heap[gb586]? = some (.cells #[.string t582, .string t583, .int .i64 t584] 26 (0, 0))) := ⟨zz101⟩
      have n3_ : Aside0 ((((w22.setCell ⟨gb591, 0, none⟩ (.string t587)).setCell ⟨gb591, 1, none⟩ (.string t588)).setCell ⟨gb591, 2, none⟩ (.int .i64 t589)).heap[gb591]? = some (.cells #[.string t587, .string t588, .int .i64 t589] 26 (0, 0))) := ⟨zz113⟩
      have n4_ : Aside0 (Below w.heap.size w (((w22.setCell ⟨gb591, 0, none⟩ (.string t587)).setCell ⟨gb591, 1, none⟩ (.string t588)).setCell ⟨gb591, 2, none⟩ (.int .i64 t589))) := ⟨zz79⟩
      (try clear BK580)
      (try clear BK581)
      (try clear BK586)
      (try clear BK591)
      (try clear HB)
      generalize (((w22.setCell ⟨gb591, 0, none⟩ (.string t587)).setCell ⟨gb591, 1, none⟩ (.string t588)).setCell ⟨gb591, 2, none⟩ (.int .i64 t589)) = w34 at n0_ n1_ n2_ n3_ n4_ ⊢
      have BK580 := n0_
      have BK581 := n1_
      have BK586 := n2_
      have BK591 := n3_
      have HB := n4_
      clear n0_ n1_ n2_ n3_ n4_
      refine qs5 (blk_drew BK580.out) (blk_drew BK581.out) (blk_drew BK586.out) (blk_drew BK591.out) (below_drew1 HB.out) ?_; clear BK580 BK581 BK586 BK591 HB; intro BK580 BK581 BK586 BK591 HB
      refine start_ (n := 22) (S := fun w' => w'.cell? ⟨gb586, 0, none⟩ = some (.string t582) ∧ w'.cell? ⟨gb586, 1, none⟩ = some (.string t583) ∧ w'.cell? ⟨gb586, 2, none⟩ = some (.int .i64 t584) ∧ w'.cell? ⟨gb591, 0, none⟩ = some (.string t587) ∧ w'.cell? ⟨gb591, 1, none⟩ = some (.string t588) ∧ w'.cell? ⟨gb591, 2, none⟩ = some (.int .i64 t589) ∧ w'.cell? ⟨gb580, 0, none⟩ = some (.string t575) ∧ w'.cell? ⟨gb580, 1, none⟩ = some (.string t576) ∧ w'.cell? ⟨gb580, 2, none⟩ = some (.int .i64 t577)) (ds := []) #[false, false, false, false, false, false, false, false, false, false, false, false, false, false, false, false, false, false, false, false, false, false] (by kernel_rfl) rfl rfl ⟨(blk_cell BK586.out 0).trans rfl, (blk_cell BK586.out 1).trans rfl, (blk_cell BK586.out 2).trans rfl, (blk_cell BK591.out 0).trans rfl, (blk_cell BK591.out 1).trans rfl, (blk_cell BK591.out 2).trans rfl, (blk_cell BK580.out 0).trans rfl, (blk_cell BK580.out 1).trans rfl, (blk_cell BK580.out 2).trans rfl⟩ (fun hHeld => ?_); refine with_tabW laws_FnLog.tab6 laws_FnLog.bits6 (fun HT_ HW_ => ?_)
      generalize w34.drew = w35 at BK580 BK581 BK586 BK591 HB hHeld ⊢
      refine qt9 0 38 ?_; refine qt9 1 39 ?_; refine qp 2 40 ?_; refine qp 3 41 ?_; refine qp 4 42 ?_; refine qp 5 43 ?_; refine qp 6 44 ?_; refine qp 7 45 ?_; refine qp 8 46 ?_; refine qt9 9 47 ?_; refine qt9 11 49 ?_
      refine one_ (i := 10) (N := some 48) #[true, true, true, true, true, true, true, true, true, true, true, true, false, false, false, false, false, false, false, false, false, false] rfl rfl (one_of HT_.out (by kernel_rfl)) (by decide) (fun K hK => ?_)
      refine goes_ Tryd.func14 (by kernel_rfl) rfl #[.agg #[.string t575, .string t576, .int .i64 t577]] (by rfl) rfl rfl zz21 ?_
      with_reducible refine (impl_IsValidLog.calls k t575 t576 t577 t592 _ ?side1 A31.out).mono ?_
      (case side1 => exact Gl.below HG.out zz79)
      rintro e w36 ⟨rfl, hb⟩
      refine ⟨_, rfl, ?_⟩
      refine qs5 (blk_below (qb BK580.out) hb) (blk_below (qb BK581.out) hb) (blk_below (qb BK586.out) hb) (blk_below (qb BK591.out) hb) (below_step zz79 hb) ?_; clear BK580 BK581 BK586 BK591 HB; intro BK580 BK581 BK586 BK591 HB
      (try clear hb)
      (try clear hb2)
      (try clear hk)
      (try clear hi)
      refine hK.out _ _ ⟨(blk_cell BK586.out 0).trans rfl, (blk_cell BK586.out 1).trans rfl, (blk_cell BK586.out 2).trans rfl, (blk_cell BK591.out 0).trans rfl, (blk_cell BK591.out 1).trans rfl, (blk_cell BK591.out 2).trans rfl, (blk_cell BK580.out 0).trans rfl, (blk_cell BK580.out 1).trans rfl, (blk_cell BK580.out 2).trans rfl⟩ (fun hHeld => ?_)
      clear hK K
      refine norm_ (a' := ?_) ?_ ?_
      rotate_left
      · show Act.put _ (some 48) _ = _
        simp only [Act.put, List.setIfInBounds_toArray, List.set_cons_zero, List.set_cons_succ, i64_w, i32_w]
        rfl
      refine one_ (i := 12) (N := some 50) #[true, true, true, true, true, true, true, true, true, true, true, true, true, false, false, false, false, false, false, false, false, false] rfl rfl (one_of HT_.out (by kernel_rfl)) (by decide) (fun K hK => ?_)
      refine goes_ Tryd.func12 (by kernel_rfl) rfl #[.agg #[.string t575, .string t576, .int .i64 t577]] (by rfl) rfl rfl zz21 ?_
      with_reducible refine (spec_IsValidLog.calls k t575 t576 t577 t593 _ A32.out).mono ?_
      rintro e w37 ⟨rfl, hb⟩
      refine ⟨_, rfl, ?_⟩
      refine qs5 (blk_below (qb BK580.out) hb) (blk_below (qb BK581.out) hb) (blk_below (qb BK586.out) hb) (blk_below (qb BK591.out) hb) (below_step zz79 hb) ?_; clear BK580 BK581 BK586 BK591 HB; intro BK580 BK581 BK586 BK591 HB
      (try clear hb)
      (try clear hb2)
      (try clear hk)
      (try clear hi)
      refine hK.out _ _ ⟨(blk_cell BK586.out 0).trans rfl, (blk_cell BK586.out 1).trans rfl, (blk_cell BK586.out 2).trans rfl, (blk_cell BK591.out 0).trans rfl, (blk_cell BK591.out 1).trans rfl, (blk_cell BK591.out 2).trans rfl, (blk_cell BK580.out 0).trans rfl, (blk_cell BK580.out 1).trans rfl, (blk_cell BK580.out 2).trans rfl⟩ (fun hHeld => ?_)
      clear hK K
      refine norm_ (a' := ?_) ?_ ?_
      rotate_left
      · show Act.put _ (some 50) _ = _
        simp only [Act.put, List.setIfInBounds_toArray, List.set_cons_zero, List.set_cons_succ, i64_w, i32_w]
        rfl
      refine qp 13 51 ?_; refine qp 14 52 ?_; refine qp 15 53 ?_; refine qu 16 54 ?_; refine qu 17 55 ?_; refine qu 18 56 ?_; refine qu 19 57 ?_; refine qu 20 58 ?_; refine qp 21 59 ?_
      refine done_ (done_of HT_.out (by kernel_rfl)) ?_
      try go_wp2
      go_meet
      case rel => exact ⟨_, (true), zz3, H', ⟨zz1⟩, ⟨zz9⟩, ⟨zz10⟩, ⟨zz11⟩, ⟨zz12⟩, ⟨zz79⟩⟩
    rw [if_neg c33] at H
    have c33b0 : (t592 != t593) = false := by simpa using c33
    (try (have c33b1 : decide (t592 = t593) = true := by simpa using c33))
    (try (have c33b2 : (t592 == t593) = true := by simpa using c33))
    clear c33
    replace H := Option.bind_eq_some_iff.mp H
    obtain ⟨t594, A380, H⟩ := H
    (try dsimp only at H)
    have A38 := Aside0.mk A380
    clear A380
    replace H := Option.bind_eq_some_iff.mp H
    obtain ⟨t595, A390, H⟩ := H
    (try dsimp only at H)
    have A39 := Aside0.mk A390
    clear A390
    have H' := Aside0.mk H
    clear H
    try go_wp2
    have n0_ : Aside0 ((((w22.setCell ⟨gb591, 0, none⟩ (.string t587)).setCell ⟨gb591, 1, none⟩ (.string t588)).setCell ⟨gb591, 2, none⟩ (.int .i64 t589)).heap[gb580]? = some (.cells #[.string t575, .string t576, .int .i64 t577] 26 (0, 0))) := ⟨zz99⟩
    have n1_ : Aside0 ((((w22.setCell ⟨gb591, 0, none⟩ (.string t587)).setCell ⟨gb591, 1, none⟩ (.string t588)).setCell ⟨gb591, 2, none⟩ (.int .i64 t589)).heap[gb581]? = some (.cells #[.string t578, .string t579] 40 (0, 0))) := ⟨zz100⟩
    have n2_ : Aside0 ((((w22.setCell ⟨gb591, 0, none⟩ (.string t587)).setCell ⟨gb591, 1, none⟩ (.string t588)).setCell ⟨gb591, 2, none⟩ (.int .i64 t589)).heap[gb586]? = some (.cells #[.string t582, .string t583, .int .i64 t584] 26 (0, 0))) := ⟨zz101⟩
    have n3_ : Aside0 ((((w22.setCell ⟨gb591, 0, none⟩ (.string t587)).setCell ⟨gb591, 1, none⟩ (.string t588)).setCell ⟨gb591, 2, none⟩ (.int .i64 t589)).heap[gb591]? = some (.cells #[.string t587, .string t588, .int .i64 t589] 26 (0, 0))) := ⟨zz113⟩
    have n4_ : Aside0 (Below w.heap.size w (((w22.setCell ⟨gb591, 0, none⟩ (.string t587)).setCell ⟨gb591, 1, none⟩ (.string t588)).setCell ⟨gb591, 2, none⟩ (.int .i64 t589))) := ⟨zz79⟩
    (try clear BK580)
    (try clear BK581)
    (try clear BK586)
    (try clear BK591)
    (try clear HB)
    generalize (((w22.setCell ⟨gb591, 0, none⟩ (.string t587)).setCell ⟨gb591, 1, none⟩ (.string t588)).setCell ⟨gb591, 2, none⟩ (.int .i64 t589)) = w40 at n0_ n1_ n2_ n3_ n4_ ⊢
    have BK580 := n0_
    have BK581 := n1_
    have BK586 := n2_
    have BK591 := n3_
    have HB := n4_
    clear n0_ n1_ n2_ n3_ n4_
    refine qs5 (blk_drew BK580.out) (blk_drew BK581.out) (blk_drew BK586.out) (blk_drew BK591.out) (below_drew1 HB.out) ?_; clear BK580 BK581 BK586 BK591 HB; intro BK580 BK581 BK586 BK591 HB
    refine start_ (n := 22) (S := fun w' => w'.cell? ⟨gb586, 0, none⟩ = some (.string t582) ∧ w'.cell? ⟨gb586, 1, none⟩ = some (.string t583) ∧ w'.cell? ⟨gb586, 2, none⟩ = some (.int .i64 t584) ∧ w'.cell? ⟨gb591, 0, none⟩ = some (.string t587) ∧ w'.cell? ⟨gb591, 1, none⟩ = some (.string t588) ∧ w'.cell? ⟨gb591, 2, none⟩ = some (.int .i64 t589) ∧ w'.cell? ⟨gb580, 0, none⟩ = some (.string t575) ∧ w'.cell? ⟨gb580, 1, none⟩ = some (.string t576) ∧ w'.cell? ⟨gb580, 2, none⟩ = some (.int .i64 t577) ∧ w'.cell? ⟨gb581, 0, none⟩ = some (.string t578) ∧ w'.cell? ⟨gb581, 1, none⟩ = some (.string t579)) (ds := []) #[false, false, false, false, false, false, false, false, false, false, false, false, false, false, false, false, false, false, false, false, false, false] (by kernel_rfl) rfl rfl ⟨(blk_cell BK586.out 0).trans rfl, (blk_cell BK586.out 1).trans rfl, (blk_cell BK586.out 2).trans rfl, (blk_cell BK591.out 0).trans rfl, (blk_cell BK591.out 1).trans rfl, (blk_cell BK591.out 2).trans rfl, (blk_cell BK580.out 0).trans rfl, (blk_cell BK580.out 1).trans rfl, (blk_cell BK580.out 2).trans rfl, (blk_cell BK581.out 0).trans rfl, (blk_cell BK581.out 1).trans rfl⟩ (fun hHeld => ?_); refine with_tabW laws_FnLog.tab6 laws_FnLog.bits6 (fun HT_ HW_ => ?_)
    generalize w40.drew = w41 at BK580 BK581 BK586 BK591 HB hHeld ⊢
    refine qt11 0 38 ?_; refine qt11 1 39 ?_; refine qp 2 40 ?_; refine qp 3 41 ?_; refine qp 4 42 ?_; refine qp 5 43 ?_; refine qp 6 44 ?_; refine qp 7 45 ?_; refine qp 8 46 ?_; refine qt11 9 47 ?_; refine qt11 11 49 ?_
    refine one_ (i := 10) (N := some 48) #[true, true, true, true, true, true, true, true, true, true, true, true, false, false, false, false, false, false, false, false, false, false] rfl rfl (one_of HT_.out (by kernel_rfl)) (by decide) (fun K hK => ?_)
    refine goes_ Tryd.func14 (by kernel_rfl) rfl #[.agg #[.string t575, .string t576, .int .i64 t577]] (by rfl) rfl rfl zz21 ?_
    with_reducible refine (impl_IsValidLog.calls k t575 t576 t577 t592 _ ?side1 A31.out).mono ?_
    (case side1 => exact Gl.below HG.out zz79)
    rintro e w42 ⟨rfl, hb⟩
    refine ⟨_, rfl, ?_⟩
    refine qs5 (blk_below (qb BK580.out) hb) (blk_below (qb BK581.out) hb) (blk_below (qb BK586.out) hb) (blk_below (qb BK591.out) hb) (below_step zz79 hb) ?_; clear BK580 BK581 BK586 BK591 HB; intro BK580 BK581 BK586 BK591 HB
    (try clear hb)
    (try clear hb2)
    (try clear hk)
    (try clear hi)
    refine hK.out _ _ ⟨(blk_cell BK586.out 0).trans rfl, (blk_cell BK586.out 1).trans rfl, (blk_cell BK586.out 2).trans rfl, (blk_cell BK591.out 0).trans rfl, (blk_cell BK591.out 1).trans rfl, (blk_cell BK591.out 2).trans rfl, (blk_cell BK580.out 0).trans rfl, (blk_cell BK580.out 1).trans rfl, (blk_cell BK580.out 2).trans rfl, (blk_cell BK581.out 0).trans rfl, (blk_cell BK581.out 1).trans rfl⟩ (fun hHeld => ?_)
    clear hK K
    refine norm_ (a' := ?_) ?_ ?_
    rotate_left
    · show Act.put _ (some 48) _ = _
      simp only [Act.put, List.setIfInBounds_toArray, List.set_cons_zero, List.set_cons_succ, i64_w, i32_w]
      rfl
    refine one_ (i := 12) (N := some 50) #[true, true, true, true, true, true, true, true, true, true, true, true, true, false, false, false, false, false, false, false, false, false] rfl rfl (one_of HT_.out (by kernel_rfl)) (by decide) (fun K hK => ?_)
    refine goes_ Tryd.func12 (by kernel_rfl) rfl #[.agg #[.string t575, .string t576, .int .i64 t577]] (by rfl) rfl rfl zz21 ?_
    with_reducible refine (spec_IsValidLog.calls k t575 t576 t577 t593 _ A32.out).mono ?_
    rintro e w43 ⟨rfl, hb⟩
    refine ⟨_, rfl, ?_⟩
    refine qs5 (blk_below (qb BK580.out) hb) (blk_below (qb BK581.out) hb) (blk_below (qb BK586.out) hb) (blk_below (qb BK591.out) hb) (below_step zz79 hb) ?_; clear BK580 BK581 BK586 BK591 HB; intro BK580 BK581 BK586 BK591 HB
    (try clear hb)
    (try clear hb2)
    (try clear hk)
    (try clear hi)
    refine hK.out _ _ ⟨(blk_cell BK586.out 0).trans rfl, (blk_cell BK586.out 1).trans rfl, (blk_cell BK586.out 2).trans rfl, (blk_cell BK591.out 0).trans rfl, (blk_cell BK591.out 1).trans rfl, (blk_cell BK591.out 2).trans rfl, (blk_cell BK580.out 0).trans rfl, (blk_cell BK580.out 1).trans rfl, (blk_cell BK580.out 2).trans rfl, (blk_cell BK581.out 0).trans rfl, (blk_cell BK581.out 1).trans rfl⟩ (fun hHeld => ?_)
    clear hK K
    refine norm_ (a' := ?_) ?_ ?_
    rotate_left
    · show Act.put _ (some 50) _ = _
      simp only [Act.put, List.setIfInBounds_toArray, List.set_cons_zero, List.set_cons_succ, i64_w, i32_w]
      rfl
    refine qp 13 51 ?_; refine qp 14 52 ?_; refine qp 15 53 ?_; refine qt11 16 54 ?_; refine qt11 18 56 ?_
    refine one_ (i := 17) (N := some 55) #[true, true, true, true, true, true, true, true, true, true, true, true, true, true, true, true, true, true, true, false, false, false] rfl rfl (one_of HT_.out (by kernel_rfl)) (by decide) (fun K hK => ?_)
    refine goes_ Tryd.func37 (by kernel_rfl) rfl #[.agg #[.string t578, .string t579]] (by rfl) rfl rfl zz21 ?_
    with_reducible refine (impl_IsValidRecord.calls t578 t579 t594 _ ?side1 A38.out).mono ?_
    (case side1 => exact Gl.below HG.out zz79)
    rintro e w44 ⟨rfl, hb⟩
    refine ⟨_, rfl, ?_⟩
    refine qs5 (blk_below (qb BK580.out) hb) (blk_below (qb BK581.out) hb) (blk_below (qb BK586.out) hb) (blk_below (qb BK591.out) hb) (below_step zz79 hb) ?_; clear BK580 BK581 BK586 BK591 HB; intro BK580 BK581 BK586 BK591 HB
    (try clear hb)
    (try clear hb2)
    (try clear hk)
    (try clear hi)
    refine hK.out _ _ ⟨(blk_cell BK586.out 0).trans rfl, (blk_cell BK586.out 1).trans rfl, (blk_cell BK586.out 2).trans rfl, (blk_cell BK591.out 0).trans rfl, (blk_cell BK591.out 1).trans rfl, (blk_cell BK591.out 2).trans rfl, (blk_cell BK580.out 0).trans rfl, (blk_cell BK580.out 1).trans rfl, (blk_cell BK580.out 2).trans rfl, (blk_cell BK581.out 0).trans rfl, (blk_cell BK581.out 1).trans rfl⟩ (fun hHeld => ?_)
    clear hK K
    refine norm_ (a' := ?_) ?_ ?_
    rotate_left
    · show Act.put _ (some 55) _ = _
      simp only [Act.put, List.setIfInBounds_toArray, List.set_cons_zero, List.set_cons_succ, i64_w, i32_w]
      rfl
    refine one_ (i := 19) (N := some 57) #[true, true, true, true, true, true, true, true, true, true, true, true, true, true, true, true, true, true, true, true, false, false] rfl rfl (one_of HT_.out (by kernel_rfl)) (by decide) (fun K hK => ?_)
    refine goes_ Tryd.func38 (by kernel_rfl) rfl #[.agg #[.string t578, .string t579]] (by rfl) rfl rfl zz21 ?_
    with_reducible refine (spec_IsValidRecord.calls k t578 t579 t595 _ A39.out).mono ?_
    rintro e w45 ⟨rfl, hb⟩
    refine ⟨_, rfl, ?_⟩
    refine qs5 (blk_below (qb BK580.out) hb) (blk_below (qb BK581.out) hb) (blk_below (qb BK586.out) hb) (blk_below (qb BK591.out) hb) (below_step zz79 hb) ?_; clear BK580 BK581 BK586 BK591 HB; intro BK580 BK581 BK586 BK591 HB
    (try clear hb)
    (try clear hb2)
    (try clear hk)
    (try clear hi)
    refine hK.out _ _ ⟨(blk_cell BK586.out 0).trans rfl, (blk_cell BK586.out 1).trans rfl, (blk_cell BK586.out 2).trans rfl, (blk_cell BK591.out 0).trans rfl, (blk_cell BK591.out 1).trans rfl, (blk_cell BK591.out 2).trans rfl, (blk_cell BK580.out 0).trans rfl, (blk_cell BK580.out 1).trans rfl, (blk_cell BK580.out 2).trans rfl, (blk_cell BK581.out 0).trans rfl, (blk_cell BK581.out 1).trans rfl⟩ (fun hHeld => ?_)
    clear hK K
    refine norm_ (a' := ?_) ?_ ?_
    rotate_left
    · show Act.put _ (some 57) _ = _
      simp only [Act.put, List.setIfInBounds_toArray, List.set_cons_zero, List.set_cons_succ, i64_w, i32_w]
      rfl
    refine qp 20 58 ?_; refine qp 21 59 ?_
    refine done_ (done_of HT_.out (by kernel_rfl)) ?_
    try go_wp2
    go_meet
    case rel => exact ⟨_, ((t594 != t595)), zz3, H', ⟨zz1⟩, ⟨zz9⟩, ⟨zz10⟩, ⟨zz11⟩, ⟨zz12⟩, ⟨zz79⟩⟩
  case rest =>
    clear HC7
    try clear c1
    try clear p2
    try clear c3
    try clear c12
    try clear c14
    try clear c30
    try clear c30b0
    try clear c30b1
    try clear c33
    try clear c33b0
    try clear c33b1
    try clear c33b2
    try clear c37
    try clear c38
    obtain ⟨kq, x59_6, rfl, HA, HJ6, BK580, BK581, BK586, BK591, HB⟩ := hcut
    cases kq with
    | zero => exact absurd HA.out (by simp [laws_FnLog.j0])
    | succ kj6 =>
      have H := HA.out
      clear HA
      simp only [laws_FnLog.j0] at H
      by_cases c48 : x59_6 = true
      · subst c48
        rw [if_pos rfl] at H
        obtain rfl := Option.some.inj H
        go_wp2
        go_ret
        exact ⟨zz7, zz79⟩
      replace c48 := Bool.eq_false_iff.mpr c48
      subst c48
      rw [if_neg (show ¬ (false = true) by decide)] at H
      by_cases c49 : t585 = 0
      rotate_left
      · rw [if_neg c49] at H
        have c49b0 := beq_eq_false_iff_ne.mpr c49
        have c49b1 := bne_iff_ne.mpr c49
        obtain rfl := Option.some.inj H
        have hnb129 := NB586_580.out
        have hnc129 := NB580_586.out
        have hnb130 := NB586_581.out
        have hnc130 := NB581_586.out
        have hnb131 := NB586_591.out
        have hnc131 := NB591_586.out
        obtain ⟨hcz132_0, hcz132_1, hcz132_2, hfz132_0, hfz132_1, hfz132_2⟩ := qc3 BK586.out
        have hnb133 := NB580_581.out
        have hnc133 := NB581_580.out
        have hnb134 := NB580_591.out
        have hnc134 := NB591_580.out
        obtain ⟨hcz135_0, hcz135_1, hcz135_2, hfz135_0, hfz135_1, hfz135_2⟩ := qc3 BK580.out
        go_wp2
        go_ret
        exact ⟨zz7, zz79⟩
      rw [if_pos c49] at H
      have c49b0 := beq_iff_eq.mpr c49
      have c49b1 := bne_eq_false_iff_eq.mpr c49
      clear c49
      replace H := Option.bind_eq_some_iff.mp H
      obtain ⟨⟨t596, t599⟩, A500, H⟩ := H
      (try dsimp only at H)
      have A50 := Aside0.mk A500
      clear A500
      replace H := Option.bind_eq_some_iff.mp H
      obtain ⟨⟨t600, t603⟩, A510, H⟩ := H
      (try dsimp only at H)
      have A51 := Aside0.mk A510
      clear A510
      by_cases c52 : t582.size + t583.size ≤ 9223372036854775807
      rotate_left
      · rw [if_neg c52] at H
        exact absurd H (by simp)
      rw [if_pos c52] at H
      have c52b0 := eq_true c52
      have c52b1 := decide_eq_true c52
      try have c52b2 := eq_false (Nat.not_lt.2 c52)
      clear c52
      replace H := Option.bind_eq_some_iff.mp H
      obtain ⟨⟨t604, t605, t606, t607, t608⟩, A530, H⟩ := H
      (try dsimp only at H)
      have A53 := Aside0.mk A530
      clear A530
      replace H := Option.bind_eq_some_iff.mp H
      obtain ⟨⟨t610, t611, t612, t613⟩, A540, H⟩ := H
      (try dsimp only at H)
      have A54 := Aside0.mk A540
      clear A540
      have HC55 := Aside0.mk H
      clear H
      have hnb56 := NB586_580.out
      have hnc56 := NB580_586.out
      have hnb57 := NB586_581.out
      have hnc57 := NB581_586.out
      have hnb58 := NB586_591.out
      have hnc58 := NB591_586.out
      obtain ⟨hcz59_0, hcz59_1, hcz59_2, hfz59_0, hfz59_1, hfz59_2⟩ := qc3 BK586.out
      go_upto_region 14 with (first | ((with_reducible refine gate_callee (f := 25) rfl ?_); refine qcall 67 Tryd.func25 rfl #[.agg #[.string t582, .string t583, .int .i64 t584]] ?_; (with_reducible refine (impl_LogRecords.calls kj6 t582 t583 t584 t596 t599 _ ?side1 A50.out).mono ?_); (case side1 => exact Gl.below HG.out zz79); rintro e w60 ⟨v597, rfl, ho0, hb⟩; refine ⟨_, rfl, ?_⟩; refine qs6 (Kd.R_lower (Kd.R_newB ho0 (g := gb581) (o := .cells #[.string t578, .string t579] 40 (0, 0)) (qb BK581.out)) (below_size zz79)) (blk_below (qb BK580.out) hb) (blk_below (qb BK581.out) hb) (blk_below (qb BK586.out) hb) (blk_below (qb BK591.out) hb) (below_step zz79 hb) ?_; clear BK580 BK581 BK586 BK591 HB; intro HO598 BK580 BK581 BK586 BK591 HB; (try clear hb); (try clear hb2); (try clear hk); (try clear hi); (try clear ho0); have hnb61 := NB580_581.out; have hnc61 := NB581_580.out; have hnb62 := NB580_591.out; have hnc62 := NB591_580.out; obtain ⟨hcz63_0, hcz63_1, hcz63_2, hfz63_0, hfz63_1, hfz63_2⟩ := qc3 BK580.out) | ((with_reducible refine gate_callee (f := 25) rfl ?_); refine qcall 72 Tryd.func25 rfl #[.agg #[.string t575, .string t576, .int .i64 t577]] ?_; (with_reducible refine (impl_LogRecords.calls kj6 t575 t576 t577 t600 t603 _ ?side1 A51.out).mono ?_); (case side1 => exact Gl.below HG.out zz79); rintro e w64 ⟨v601, rfl, ho0, hb⟩; refine ⟨_, rfl, ?_⟩; refine qs7 (Kd.R_elder' (qr HO598.out) (Kd.R_base ho0) hb) (Kd.R_lower (Kd.R_newB (Kd.R_new' ho0 (Kd.R_lt (qr HO598.out))) (g := gb581) (o := .cells #[.string t578, .string t579] 40 (0, 0)) (qb BK581.out)) (below_size zz79)) (blk_below (qb BK580.out) hb) (blk_below (qb BK581.out) hb) (blk_below (qb BK586.out) hb) (blk_below (qb BK591.out) hb) (below_step zz79 hb) ?_; clear HO598 BK580 BK581 BK586 BK591 HB; intro HO598 HO602 BK580 BK581 BK586 BK591 HB; (try clear hb); (try clear hb2); (try clear hk); (try clear hi); (try clear ho0); obtain ⟨hcz65_0, hcz65_1, hcz65_2, hfz65_0, hfz65_1, hfz65_2⟩ := qc3 BK586.out) | ((with_reducible refine gate_callee (f := 34) rfl ?_); refine qcall 81 Tryd.func34 rfl #[.string (cat t582 t583)] ?_; (with_reducible refine (impl_RecoverLog.calls kj6 (cat t582 t583) t604 t605 t606 t607 t608 _ ?side1 A53.out).mono ?_); (case side1 => exact Gl.below HG.out zz79); rintro e w66 ⟨rfl, hb⟩; refine ⟨_, rfl, ?_⟩; refine qs7 (Kd.R_below (qr HO598.out) hb) (Kd.R_below (qr HO602.out) hb) (blk_below (qb BK580.out) hb) (blk_below (qb BK581.out) hb) (blk_below (qb BK586.out) hb) (blk_below (qb BK591.out) hb) (below_step zz79 hb) ?_; clear HO598 HO602 BK580 BK581 BK586 BK591 HB; intro HO598 HO602 BK580 BK581 BK586 BK591 HB; (try clear hb); (try clear hb2); (try clear hk); (try clear hi)) | ((with_reducible refine gate_dst (N := 13) rfl ?_); (try (refine gate_guard (by rfl) ?_; dsimp only)); refine qbox (N := 13) (cs := #[.string (⟨#[]⟩ : ByteArray), .string (⟨#[]⟩ : ByteArray), .int .i64 0]) (t := 26) ?_; intro gb609 hg w67 hbox hb; refine qs18 (Kd.R_below (qr HO598.out) hb) (Kd.R_below (qr HO602.out) hb) (blk_below (qb BK580.out) hb) (blk_below (qb BK581.out) hb) (blk_below (qb BK586.out) hb) (blk_below (qb BK591.out) hb) (below_step zz79 hb) (hbox) ((by rw [hg]; exact (below_size zz79) : w.heap.size ≤ gb609)) ((by rw [hg]; exact (below_size zz79) : w.heap.size ≤ gb609)) ((by rw [hg]; exact Nat.ne_of_lt (blk_lt (qb BK580.out)) : gb580 ≠ gb609)) ((by rw [hg]; exact Nat.ne_of_gt (blk_lt (qb BK580.out)) : gb609 ≠ gb580)) ((by rw [hg]; exact Nat.ne_of_lt (blk_lt (qb BK581.out)) : gb581 ≠ gb609)) ((by rw [hg]; exact Nat.ne_of_gt (blk_lt (qb BK581.out)) : gb609 ≠ gb581)) ((by rw [hg]; exact Nat.ne_of_lt (blk_lt (qb BK586.out)) : gb586 ≠ gb609)) ((by rw [hg]; exact Nat.ne_of_gt (blk_lt (qb BK586.out)) : gb609 ≠ gb586)) ((by rw [hg]; exact Nat.ne_of_lt (blk_lt (qb BK591.out)) : gb591 ≠ gb609)) ((by rw [hg]; exact Nat.ne_of_gt (blk_lt (qb BK591.out)) : gb609 ≠ gb591)) ?_; clear HO598 HO602 BK580 BK581 BK586 BK591 HB; intro HO598 HO602 BK580 BK581 BK586 BK591 HB BK609 GW609 GE609 NB580_609 NB609_580 NB581_609 NB609_581 NB586_609 NB609_586 NB591_609 NB609_591; clear hb hbox hg; have hnb68 := NB609_580.out; have hnc68 := NB580_609.out; have hnb69 := NB609_581.out; have hnc69 := NB581_609.out; have hnb70 := NB609_586.out; have hnc70 := NB586_609.out; have hnb71 := NB609_591.out; have hnc71 := NB591_609.out; obtain ⟨hcz72_0, hcz72_1, hcz72_2, hfz72_0, hfz72_1, hfz72_2⟩ := qc3 BK609.out; obtain ⟨hcz73_0, hcz73_1, hcz73_2, hfz73_0, hfz73_1, hfz73_2⟩ := qc3 BK586.out) | ((with_reducible refine gate_callee (f := 18) rfl ?_); refine qcall 87 Tryd.func18 rfl #[.agg #[.string t582, .string t583, .int .i64 t584]] ?_; (with_reducible refine (impl_SyncLog.calls kj6 t582 t583 t584 t610 t611 t612 t613 _ ?side1 A54.out).mono ?_); (case side1 => exact Gl.below HG.out zz82); rintro e w74 ⟨rfl, hb⟩; refine ⟨_, rfl, ?_⟩; refine qs8 (Kd.R_below (by (with_reducible repeat (first | apply Kd.R_alloc | apply Kd.R_drewN | apply Kd.R_drew)); exact (Kd.R_mono (Kd.R_far (p := ⟨gb609, 2, none⟩) (Kd.R_far (p := ⟨gb609, 1, none⟩) (Kd.R_far (p := ⟨gb609, 0, none⟩) (Kd.R_types HO598.out BK609.out (by decide)) (fun _ hk => hk.2) (.string t604)) (fun _ hk => hk.2) (.string t605)) (fun _ hk => hk.2) (.int .i64 t606)) (fun _ h_ => h_.1))) hb) (Kd.R_below (by (with_reducible repeat (first | apply Kd.R_alloc | apply Kd.R_drewN | apply Kd.R_drew)); exact (Kd.R_mono (Kd.R_far (p := ⟨gb609, 2, none⟩) (Kd.R_far (p := ⟨gb609, 1, none⟩) (Kd.R_far (p := ⟨gb609, 0, none⟩) (Kd.R_types HO602.out BK609.out (by decide)) (fun _ hk => hk.2) (.string t604)) (fun _ hk => hk.2) (.string t605)) (fun _ hk => hk.2) (.int .i64 t606)) (fun _ h_ => h_.1))) hb) (blk_below (g := gb580) (o := .cells #[.string t575, .string t576, .int .i64 t577] 26 (0, 0)) (by (with_reducible repeat (first | refine blk_drewN ?_ _ | refine blk_drew ?_ | refine blk_alloc ?_ _)); refine blk_far ?_ NB580_609.out _; (with_reducible repeat (first | refine blk_drewN ?_ _ | refine blk_drew ?_ | refine blk_alloc ?_ _)); refine blk_far ?_ NB580_609.out _; (with_reducible repeat (first | refine blk_drewN ?_ _ | refine blk_drew ?_ | refine blk_alloc ?_ _)); refine blk_far ?_ NB580_609.out _; (with_reducible repeat (first | refine blk_drewN ?_ _ | refine blk_drew ?_ | refine blk_alloc ?_ _)); exact BK580.out) hb) (blk_below (g := gb581) (o := .cells #[.string t578, .string t579] 40 (0, 0)) (by (with_reducible repeat (first | refine blk_drewN ?_ _ | refine blk_drew ?_ | refine blk_alloc ?_ _)); refine blk_far ?_ NB581_609.out _; (with_reducible repeat (first | refine blk_drewN ?_ _ | refine blk_drew ?_ | refine blk_alloc ?_ _)); refine blk_far ?_ NB581_609.out _; (with_reducible repeat (first | refine blk_drewN ?_ _ | refine blk_drew ?_ | refine blk_alloc ?_ _)); refine blk_far ?_ NB581_609.out _; (with_reducible repeat (first | refine blk_drewN ?_ _ | refine blk_drew ?_ | refine blk_alloc ?_ _)); exact BK581.out) hb) (blk_below (g := gb586) (o := .cells #[.string t582, .string t583, .int .i64 t584] 26 (0, 0)) (by (with_reducible repeat (first | refine blk_drewN ?_ _ | refine blk_drew ?_ | refine blk_alloc ?_ _)); refine blk_far ?_ NB586_609.out _; (with_reducible repeat (first | refine blk_drewN ?_ _ | refine blk_drew ?_ | refine blk_alloc ?_ _)); refine blk_far ?_ NB586_609.out _; (with_reducible repeat (first | refine blk_drewN ?_ _ | refine blk_drew ?_ | refine blk_alloc ?_ _)); refine blk_far ?_ NB586_609.out _; (with_reducible repeat (first | refine blk_drewN ?_ _ | refine blk_drew ?_ | refine blk_alloc ?_ _)); exact BK586.out) hb) (blk_below (g := gb591) (o := .cells #[.string t587, .string t588, .int .i64 t589] 26 (0, 0)) (by (with_reducible repeat (first | refine blk_drewN ?_ _ | refine blk_drew ?_ | refine blk_alloc ?_ _)); refine blk_far ?_ NB591_609.out _; (with_reducible repeat (first | refine blk_drewN ?_ _ | refine blk_drew ?_ | refine blk_alloc ?_ _)); refine blk_far ?_ NB591_609.out _; (with_reducible repeat (first | refine blk_drewN ?_ _ | refine blk_drew ?_ | refine blk_alloc ?_ _)); refine blk_far ?_ NB591_609.out _; (with_reducible repeat (first | refine blk_drewN ?_ _ | refine blk_drew ?_ | refine blk_alloc ?_ _)); exact BK591.out) hb) (blk_below (g := gb609) (o := .cells #[.string t604, .string t605, .int .i64 t606] 26 (0, 0)) (by (with_reducible repeat (first | refine blk_drewN ?_ _ | refine blk_drew ?_ | refine blk_alloc ?_ _)); refine blk_put (cs := #[.string t604, .string t605, .int .i64 0]) ?_ 2 _ rfl; (with_reducible repeat (first | refine blk_drewN ?_ _ | refine blk_drew ?_ | refine blk_alloc ?_ _)); refine blk_put (cs := #[.string t604, .string (⟨#[]⟩ : ByteArray), .int .i64 0]) ?_ 1 _ rfl; (with_reducible repeat (first | refine blk_drewN ?_ _ | refine blk_drew ?_ | refine blk_alloc ?_ _)); refine blk_put (cs := #[.string (⟨#[]⟩ : ByteArray), .string (⟨#[]⟩ : ByteArray), .int .i64 0]) ?_ 0 _ rfl; (with_reducible repeat (first | refine blk_drewN ?_ _ | refine blk_drew ?_ | refine blk_alloc ?_ _)); exact BK609.out) hb) (below_step zz82 hb) ?_; clear HO598 HO602 BK580 BK581 BK586 BK591 BK609 HB; intro HO598 HO602 BK580 BK581 BK586 BK591 BK609 HB; (try clear hb); (try clear hb2); (try clear hk); (try clear hi)) | ((with_reducible refine gate_dst (N := 16) rfl ?_); (try (refine gate_guard (by rfl) ?_; dsimp only)); refine qbox (N := 16) (cs := #[.string (⟨#[]⟩ : ByteArray), .string (⟨#[]⟩ : ByteArray), .int .i64 0]) (t := 26) ?_; intro gb614 hg w75 hbox hb; refine qs21 (Kd.R_below (qr HO598.out) hb) (Kd.R_below (qr HO602.out) hb) (blk_below (qb BK580.out) hb) (blk_below (qb BK581.out) hb) (blk_below (qb BK586.out) hb) (blk_below (qb BK591.out) hb) (blk_below (qb BK609.out) hb) (below_step zz82 hb) (hbox) ((by rw [hg]; exact (below_size zz82) : w.heap.size ≤ gb614)) ((by rw [hg]; exact (below_size zz82) : w.heap.size ≤ gb614)) ((by rw [hg]; exact Nat.ne_of_lt (blk_lt (qb BK580.out)) : gb580 ≠ gb614)) ((by rw [hg]; exact Nat.ne_of_gt (blk_lt (qb BK580.out)) : gb614 ≠ gb580)) ((by rw [hg]; exact Nat.ne_of_lt (blk_lt (qb BK581.out)) : gb581 ≠ gb614)) ((by rw [hg]; exact Nat.ne_of_gt (blk_lt (qb BK581.out)) : gb614 ≠ gb581)) ((by rw [hg]; exact Nat.ne_of_lt (blk_lt (qb BK586.out)) : gb586 ≠ gb614)) ((by rw [hg]; exact Nat.ne_of_gt (blk_lt (qb BK586.out)) : gb614 ≠ gb586)) ((by rw [hg]; exact Nat.ne_of_lt (blk_lt (qb BK591.out)) : gb591 ≠ gb614)) ((by rw [hg]; exact Nat.ne_of_gt (blk_lt (qb BK591.out)) : gb614 ≠ gb591)) ((by rw [hg]; exact Nat.ne_of_lt (blk_lt (qb BK609.out)) : gb609 ≠ gb614)) ((by rw [hg]; exact Nat.ne_of_gt (blk_lt (qb BK609.out)) : gb614 ≠ gb609)) ?_; clear HO598 HO602 BK580 BK581 BK586 BK591 BK609 HB; intro HO598 HO602 BK580 BK581 BK586 BK591 BK609 HB BK614 GW614 GE614 NB580_614 NB614_580 NB581_614 NB614_581 NB586_614 NB614_586 NB591_614 NB614_591 NB609_614 NB614_609; clear hb hbox hg; have hnb76 := NB614_580.out; have hnc76 := NB580_614.out; have hnb77 := NB614_581.out; have hnc77 := NB581_614.out; have hnb78 := NB614_586.out; have hnc78 := NB586_614.out; have hnb79 := NB614_591.out; have hnc79 := NB591_614.out; have hnb80 := NB614_609.out; have hnc80 := NB609_614.out; obtain ⟨hcz81_0, hcz81_1, hcz81_2, hfz81_0, hfz81_1, hfz81_2⟩ := qc3 BK614.out))
      (try simp only [Act.put, List.setIfInBounds_toArray, List.set_cons_zero, List.set_cons_succ])
      go_cut [106] (fun v106 wc => ∃ (kq : Nat) (x106_54 : Bool), v106 = .bool x106_54 ∧ Aside0 (laws_FnLog.j1 kq t596 t600 t607 t608 t613 x106_54 t578 t579 t582 t583 t584 t604 t605 t606 t610 t611 t612 = some r) ∧ Aside0 (kq ≤ kj6) ∧ Aside0 (Kd.R k40 40 wc w.heap.size (fun k_ => some k_ ≠ (v601 : Value).ownBlock ∧ k_ ≠ gb581) v597 t596) ∧ Aside0 (Kd.R k40 40 wc w.heap.size (fun k_ => some k_ ≠ (v597 : Value).ownBlock ∧ k_ ≠ gb581) v601 t600) ∧ Aside0 (wc.heap[gb580]? = some (.cells #[.string t575, .string t576, .int .i64 t577] 26 (0, 0))) ∧ Aside0 (wc.heap[gb581]? = some (.cells #[.string t578, .string t579] 40 (0, 0))) ∧ Aside0 (wc.heap[gb586]? = some (.cells #[.string t582, .string t583, .int .i64 t584] 26 (0, 0))) ∧ Aside0 (wc.heap[gb591]? = some (.cells #[.string t587, .string t588, .int .i64 t589] 26 (0, 0))) ∧ Aside0 (wc.heap[gb609]? = some (.cells #[.string t604, .string t605, .int .i64 t606] 26 (0, 0))) ∧ Aside0 (wc.heap[gb614]? = some (.cells #[.string t610, .string t611, .int .i64 t612] 26 (0, 0))) ∧ Aside0 (Below w.heap.size w wc))
      case first =>
        have H := HC55.out
        clear HC55
        by_cases c82 : t599 = true
        rotate_left
        · replace c82 := Bool.eq_false_iff.mpr c82
          subst c82
          rw [if_neg (show ¬ (false = true) by decide)] at H
          have H' := Aside0.mk H
          clear H
          go_wp2
          go_meet
          case rel => exact ⟨_, (true), zz3, H', ⟨by have := HJ6.out; first | omega | exact Nat.le_refl _⟩, ⟨zz88⟩, ⟨zz89⟩, ⟨zz104⟩, ⟨zz105⟩, ⟨zz106⟩, ⟨zz107⟩, ⟨zz108⟩, ⟨zz114⟩, ⟨zz85⟩⟩
        subst c82
        rw [if_pos rfl] at H
        by_cases c83 : (t596.length : Int) = (wrap64 ((t600.length : Int) + 1))
        rotate_left
        · rw [if_neg c83] at H
          have c83b0 := beq_eq_false_iff_ne.mpr c83
          have c83b1 := bne_iff_ne.mpr c83
          (first | rw [c83b0] | (simp only [i64_w, i32_w]; rw [c83b0]) | skip)
          have H' := Aside0.mk H
          clear H
          obtain ⟨Ao92, co92, eo92⟩ := Kd.R_slice HO598.out
          subst eo92
          obtain ⟨Ao93, co93, eo93⟩ := Kd.R_slice HO602.out
          subst eo93
          go_wp2
          go_meet
          case rel => exact ⟨_, (true), zz3, H', ⟨by have := HJ6.out; first | omega | exact Nat.le_refl _⟩, ⟨zz88⟩, ⟨zz89⟩, ⟨zz104⟩, ⟨zz105⟩, ⟨zz106⟩, ⟨zz107⟩, ⟨zz108⟩, ⟨zz114⟩, ⟨zz85⟩⟩
        rw [if_pos c83] at H
        have c83b0 := beq_iff_eq.mpr c83
        have c83b1 := bne_eq_false_iff_eq.mpr c83
        clear c83
        (first | rw [c83b0] | (simp only [i64_w, i32_w]; rw [c83b0]) | skip)
        have H' := Aside0.mk H
        clear H
        obtain ⟨Ao84, co84, eo84⟩ := Kd.R_slice HO598.out
        subst eo84
        obtain ⟨Ao85, co85, eo85⟩ := Kd.R_slice HO602.out
        subst eo85
        have hnb86 := NB586_580.out
        have hnc86 := NB580_586.out
        have hnb87 := NB586_581.out
        have hnc87 := NB581_586.out
        have hnb88 := NB586_591.out
        have hnc88 := NB591_586.out
        have hnb89 := NB586_609.out
        have hnc89 := NB609_586.out
        have hnb90 := NB586_614.out
        have hnc90 := NB614_586.out
        obtain ⟨hcz91_0, hcz91_1, hcz91_2, hfz91_0, hfz91_1, hfz91_2⟩ := qc3 BK586.out
        go_wp2
        go_meet
        case rel => exact ⟨_, ((t584 != (t596.length : Int))), zz3, H', ⟨by have := HJ6.out; first | omega | exact Nat.le_refl _⟩, ⟨zz88⟩, ⟨zz89⟩, ⟨zz104⟩, ⟨zz105⟩, ⟨zz106⟩, ⟨zz107⟩, ⟨zz108⟩, ⟨zz114⟩, ⟨zz85⟩⟩
      case rest =>
        clear HC55
        try clear c1
        try clear c2
        try clear p2
        try clear c3
        try clear c4
        try clear c5
        try clear c6
        try clear p6
        try clear c7
        try clear c8
        try clear c9
        try clear c12
        try clear c14
        try clear c18
        try clear c25
        try clear c30
        try clear c30b0
        try clear c30b1
        try clear c33
        try clear c33b0
        try clear c33b1
        try clear c33b2
        try clear c34
        try clear c37
        try clear c38
        try clear c48
        try clear c49
        try clear c49b0
        try clear c49b1
        try clear c52
        try clear c52b0
        try clear c52b1
        try clear c52b2
        try clear c56
        try clear c57
        try clear c58
        try clear c61
        try clear c62
        try clear p64
        try clear c68
        try clear c69
        try clear c70
        try clear c71
        try clear c76
        try clear c77
        try clear c78
        try clear c79
        try clear c80
        try clear c82
        try clear c83
        try clear c83b0
        try clear c83b1
        try clear c86
        try clear c87
        try clear c88
        try clear c89
        try clear c90
        try clear hcz59_0
        try clear hcz59_1
        try clear hcz59_2
        try clear hcz63_0
        try clear hcz63_1
        try clear hcz63_2
        try clear hcz65_0
        try clear hcz65_1
        try clear hcz65_2
        try clear hcz72_0
        try clear hcz72_1
        try clear hcz72_2
        try clear hcz73_0
        try clear hcz73_1
        try clear hcz73_2
        try clear hcz81_0
        try clear hcz81_1
        try clear hcz81_2
        try clear hcz91_0
        try clear hcz91_1
        try clear hcz91_2
        try clear hfz59_0
        try clear hfz59_1
        try clear hfz59_2
        try clear hfz63_0
        try clear hfz63_1
        try clear hfz63_2
        try clear hfz65_0
        try clear hfz65_1
        try clear hfz65_2
        try clear hfz72_0
        try clear hfz72_1
        try clear hfz72_2
        try clear hfz73_0
        try clear hfz73_1
        try clear hfz73_2
        try clear hfz81_0
        try clear hfz81_1
        try clear hfz81_2
        try clear hfz91_0
        try clear hfz91_1
        try clear hfz91_2
        try clear p2
        obtain ⟨kq, x106_54, rfl, HA, HJ54, HO_9, HO_11, BK580, BK581, BK586, BK591, BK609, BK614, HB⟩ := hcut
        cases kq with
        | zero => exact absurd HA.out (by simp [laws_FnLog.j1])
        | succ kj54 =>
          have H := HA.out
          clear HA
          simp only [laws_FnLog.j1] at H
          by_cases c94 : x106_54 = true
          · subst c94
            rw [if_pos rfl] at H
            obtain rfl := Option.some.inj H
            go_wp2
            go_ret
            exact ⟨zz7, zz85⟩
          replace c94 := Bool.eq_false_iff.mpr c94
          subst c94
          rw [if_neg (show ¬ (false = true) by decide)] at H
          have H' := Aside0.mk H
          clear H
          go_wp2
          go_loopg [18] kj54 (fun kq v18 w' => ∃ (x18_3 : Int), v18 = .int .i64 x18_3 ∧ Aside0 (laws_FnLog.l0 kq t596 t600 t607 t608 t613 x18_3 t578 t579 t582 t583 t584 t604 t605 t606 t610 t611 t612 = some r) ∧ Aside0 (kq ≤ kj54) ∧ Aside0 (Kd.R k40 40 w' w.heap.size (fun k_ => some k_ ≠ (v601 : Value).ownBlock ∧ k_ ≠ gb581) v597 t596) ∧ Aside0 (Kd.R k40 40 w' w.heap.size (fun k_ => some k_ ≠ (v597 : Value).ownBlock ∧ k_ ≠ gb581) v601 t600) ∧ Aside0 (w'.heap[gb580]? = some (.cells #[.string t575, .string t576, .int .i64 t577] 26 (0, 0))) ∧ Aside0 (w'.heap[gb581]? = some (.cells #[.string t578, .string t579] 40 (0, 0))) ∧ Aside0 (w'.heap[gb586]? = some (.cells #[.string t582, .string t583, .int .i64 t584] 26 (0, 0))) ∧ Aside0 (w'.heap[gb591]? = some (.cells #[.string t587, .string t588, .int .i64 t589] 26 (0, 0))) ∧ Aside0 (w'.heap[gb609]? = some (.cells #[.string t604, .string t605, .int .i64 t606] 26 (0, 0))) ∧ Aside0 (w'.heap[gb614]? = some (.cells #[.string t610, .string t611, .int .i64 t612] 26 (0, 0))) ∧ Aside0 (Below w.heap.size w w'))
          case atStart => exact ⟨(0), zz3, H', ⟨Nat.le_refl _⟩, ⟨by (with_reducible repeat (first | apply Kd.R_alloc | apply Kd.R_drewN | apply Kd.R_drew)); exact HO_9.out⟩, ⟨by (with_reducible repeat (first | apply Kd.R_alloc | apply Kd.R_drewN | apply Kd.R_drew)); exact HO_11.out⟩, ⟨zz9⟩, ⟨zz10⟩, ⟨zz11⟩, ⟨zz12⟩, ⟨zz13⟩, ⟨zz14⟩, ⟨zz85⟩⟩
          case round =>
            clear H'
            try clear c1
            try clear c2
            try clear p2
            try clear c3
            try clear c4
            try clear c5
            try clear c6
            try clear p6
            try clear c7
            try clear c8
            try clear c9
            try clear c12
            try clear c14
            try clear c18
            try clear c25
            try clear c30
            try clear c30b0
            try clear c30b1
            try clear c33
            try clear c33b0
            try clear c33b1
            try clear c33b2
            try clear c34
            try clear c37
            try clear c38
            try clear c48
            try clear c49
            try clear c49b0
            try clear c49b1
            try clear c52
            try clear c52b0
            try clear c52b1
            try clear c52b2
            try clear c56
            try clear c57
            try clear c58
            try clear c61
            try clear c62
            try clear p64
            try clear c68
            try clear c69
            try clear c70
            try clear c71
            try clear c76
            try clear c77
            try clear c78
            try clear c79
            try clear c80
            try clear c82
            try clear c83
            try clear c83b0
            try clear c83b1
            try clear c86
            try clear c87
            try clear c88
            try clear c89
            try clear c90
            try clear c94
            try clear hcz59_0
            try clear hcz59_1
            try clear hcz59_2
            try clear hcz63_0
            try clear hcz63_1
            try clear hcz63_2
            try clear hcz65_0
            try clear hcz65_1
            try clear hcz65_2
            try clear hcz72_0
            try clear hcz72_1
            try clear hcz72_2
            try clear hcz73_0
            try clear hcz73_1
            try clear hcz73_2
            try clear hcz81_0
            try clear hcz81_1
            try clear hcz81_2
            try clear hcz91_0
            try clear hcz91_1
            try clear hcz91_2
            try clear hfz59_0
            try clear hfz59_1
            try clear hfz59_2
            try clear hfz63_0
            try clear hfz63_1
            try clear hfz63_2
            try clear hfz65_0
            try clear hfz65_1
            try clear hfz65_2
            try clear hfz72_0
            try clear hfz72_1
            try clear hfz72_2
            try clear hfz73_0
            try clear hfz73_1
            try clear hfz73_2
            try clear hfz81_0
            try clear hfz81_1
            try clear hfz81_2
            try clear hfz91_0
            try clear hfz91_1
            try clear hfz91_2
            try clear p2
            try clear p6
            try clear p64
            obtain ⟨x18_3, rfl, HA, HK3, HO_9, HO_11, BK580, BK581, BK586, BK591, BK609, BK614, HB⟩ := hrel
            cases gk with
            | zero => exact absurd HA.out (by simp [laws_FnLog.l0])
            | succ k3 =>
              have H := HA.out
              clear HA
              simp only [laws_FnLog.l0] at H
              by_cases c95 : x18_3 < (t600.length : Int)
              · rw [if_pos c95] at H
                have c95b0 := decide_eq_true c95
                clear c95
                by_cases c96 : 0 ≤ x18_3
                rotate_left
                · rw [if_neg c96] at H
                  exact absurd H (by simp)
                rw [if_pos c96] at H
                have c96b0 := decide_eq_true c96
                clear c96
                by_cases c97 : x18_3 < (t596.length : Int)
                rotate_left
                · rw [if_neg c97] at H
                  exact absurd H (by simp)
                rw [if_pos c97] at H
                have c97b0 := decide_eq_true c97
                clear c97
                by_cases c98 : (!((((rd_T40 t596 x18_3).f0).toList) == (((rd_T40 t600 x18_3).f0).toList)) || (!((((rd_T40 t596 x18_3).f1).toList) == (((rd_T40 t600 x18_3).f1).toList)))) = true
                · rw [if_pos c98] at H
                  have c98b0 := c98
                  clear c98
                  obtain rfl := Option.some.inj H
                  obtain ⟨Ao99, co99, eo99⟩ := Kd.R_slice HO_11.out
                  subst eo99
                  try go_wp2
                  refine qs9 (Kd.R_drew HO_9.out) (Kd.R_drew HO_11.out) (blk_drew BK580.out) (blk_drew BK581.out) (blk_drew BK586.out) (blk_drew BK591.out) (blk_drew BK609.out) (blk_drew BK614.out) (below_drew1 HB.out) ?_; clear HO_9 HO_11 BK580 BK581 BK586 BK591 BK609 BK614 HB; intro HO_9 HO_11 BK580 BK581 BK586 BK591 BK609 BK614 HB
                  obtain ⟨Ao101, co101, eo101⟩ := Kd.R_slice HO_9.out
                  (first | subst eo101 | (injection eo101 with f1_ f2_ f3_; have f4_ := f1_.symm; have f5_ := f3_.symm; clear f1_ f2_ f3_; subst f4_; subst f5_))
                  have p615 : 0 ≤ (x18_3 : Int) := of_decide_eq_true zz4
                  have q615 : x18_3 < (t596.length : Int) := of_decide_eq_true zz4
                  obtain ⟨ad615, e615, hx615_0, hx615_1⟩ := at_T40 (Kd.R_reads' HO_9.out).2.2 x18_3 p615 q615
                  cases e615
                  replace p615 := eq_true p615
                  replace q615 := eq_true q615
                  have p616 : 0 ≤ (x18_3 : Int) := of_decide_eq_true zz4
                  have q616 : x18_3 < (t600.length : Int) := of_decide_eq_true zz4
                  obtain ⟨ad616, e616, hx616_0, hx616_1⟩ := at_T40 (Kd.R_reads' HO_11.out).2.2 x18_3 p616 q616
                  cases e616
                  replace p616 := eq_true p616
                  replace q616 := eq_true q616
                  refine start_ (n := 9) (S := fun w' => w'.cell? (ad615.add ((x18_3).toNat * 2)) = some (.string ((rd_T40 t596 x18_3).f0)) ∧ w'.cell? ⟨(ad615.add ((x18_3).toNat * 2)).block, (ad615.add ((x18_3).toNat * 2)).off + 1, none⟩ = some (.string ((rd_T40 t596 x18_3).f1)) ∧ w'.cell? (ad616.add ((x18_3).toNat * 2)) = some (.string ((rd_T40 t600 x18_3).f0)) ∧ w'.cell? ⟨(ad616.add ((x18_3).toNat * 2)).block, (ad616.add ((x18_3).toNat * 2)).off + 1, none⟩ = some (.string ((rd_T40 t600 x18_3).f1))) (ds := []) #[false, false, false, false, false, false, false, false, false] (by kernel_rfl) rfl rfl ⟨hx615_0, hx615_1, hx616_0, hx616_1⟩ (fun hHeld => ?_); refine with_tabW laws_FnLog.tab19 laws_FnLog.bits19 (fun HT_ HW_ => ?_)
                  generalize wr.drew = w100 at HO_9 HO_11 BK580 BK581 BK586 BK591 BK609 BK614 HB hx615_0 hx615_1 hx616_0 hx616_1 hHeld ⊢
                  refine qp 0 113 ?_; refine qp 1 114 ?_; refine qp 2 115 ?_; refine qp 4 117 ?_; refine qp 5 118 ?_; refine qp 6 119 ?_; refine qt4 3 116 ?_; refine qt4 7 120 ?_; refine qp 8 121 ?_
                  refine done_ (done_of HT_.out (by kernel_rfl)) ?_
                  try go_wp2
                  go_ret
                  exact ⟨zz7, zz85⟩
                rw [if_neg c98] at H
                have c98b0 : (!((((rd_T40 t596 x18_3).f0).toList) == (((rd_T40 t600 x18_3).f0).toList)) || (!((((rd_T40 t596 x18_3).f1).toList) == (((rd_T40 t600 x18_3).f1).toList)))) = false := by simpa using c98
                clear c98
                have H' := Aside0.mk H
                clear H
                obtain ⟨Ao102, co102, eo102⟩ := Kd.R_slice HO_11.out
                subst eo102
                try go_wp2
                refine qs9 (Kd.R_drew HO_9.out) (Kd.R_drew HO_11.out) (blk_drew BK580.out) (blk_drew BK581.out) (blk_drew BK586.out) (blk_drew BK591.out) (blk_drew BK609.out) (blk_drew BK614.out) (below_drew1 HB.out) ?_; clear HO_9 HO_11 BK580 BK581 BK586 BK591 BK609 BK614 HB; intro HO_9 HO_11 BK580 BK581 BK586 BK591 BK609 BK614 HB
                obtain ⟨Ao104, co104, eo104⟩ := Kd.R_slice HO_9.out
                (first | subst eo104 | (injection eo104 with f1_ f2_ f3_; have f4_ := f1_.symm; have f5_ := f3_.symm; clear f1_ f2_ f3_; subst f4_; subst f5_))
                have p615 : 0 ≤ (x18_3 : Int) := of_decide_eq_true zz4
                have q615 : x18_3 < (t596.length : Int) := of_decide_eq_true zz4
                obtain ⟨ad615, e615, hx615_0, hx615_1⟩ := at_T40 (Kd.R_reads' HO_9.out).2.2 x18_3 p615 q615
                cases e615
                replace p615 := eq_true p615
                replace q615 := eq_true q615
                have p616 : 0 ≤ (x18_3 : Int) := of_decide_eq_true zz4
                have q616 : x18_3 < (t600.length : Int) := of_decide_eq_true zz4
                obtain ⟨ad616, e616, hx616_0, hx616_1⟩ := at_T40 (Kd.R_reads' HO_11.out).2.2 x18_3 p616 q616
                cases e616
                replace p616 := eq_true p616
                replace q616 := eq_true q616
                refine start_ (n := 9) (S := fun w' => w'.cell? (ad615.add ((x18_3).toNat * 2)) = some (.string ((rd_T40 t596 x18_3).f0)) ∧ w'.cell? ⟨(ad615.add ((x18_3).toNat * 2)).block, (ad615.add ((x18_3).toNat * 2)).off + 1, none⟩ = some (.string ((rd_T40 t596 x18_3).f1)) ∧ w'.cell? (ad616.add ((x18_3).toNat * 2)) = some (.string ((rd_T40 t600 x18_3).f0)) ∧ w'.cell? ⟨(ad616.add ((x18_3).toNat * 2)).block, (ad616.add ((x18_3).toNat * 2)).off + 1, none⟩ = some (.string ((rd_T40 t600 x18_3).f1))) (ds := []) #[false, false, false, false, false, false, false, false, false] (by kernel_rfl) rfl rfl ⟨hx615_0, hx615_1, hx616_0, hx616_1⟩ (fun hHeld => ?_); refine with_tabW laws_FnLog.tab19 laws_FnLog.bits19 (fun HT_ HW_ => ?_)
                generalize wr.drew = w103 at HO_9 HO_11 BK580 BK581 BK586 BK591 BK609 BK614 HB hx615_0 hx615_1 hx616_0 hx616_1 hHeld ⊢
                refine qp 0 113 ?_; refine qp 1 114 ?_; refine qp 2 115 ?_; refine qp 4 117 ?_; refine qp 5 118 ?_; refine qp 6 119 ?_; refine qt4 3 116 ?_; refine qt4 7 120 ?_; refine qp 8 121 ?_
                refine done_ (done_of HT_.out (by kernel_rfl)) ?_
                try go_wp2
                go_roundg k3
                case measure => have := HJ6.out; have := HJ54.out; have := HK3.out; omega
                case rel => exact ⟨(wrap64 (x18_3 + 1)), zz3, H', ⟨by have := HJ6.out; have := HJ54.out; have := HK3.out; omega⟩, ⟨by (with_reducible repeat (first | apply Kd.R_alloc | apply Kd.R_drewN | apply Kd.R_drew)); exact HO_9.out⟩, ⟨by (with_reducible repeat (first | apply Kd.R_alloc | apply Kd.R_drewN | apply Kd.R_drew)); exact HO_11.out⟩, ⟨zz9⟩, ⟨zz10⟩, ⟨zz11⟩, ⟨zz12⟩, ⟨zz13⟩, ⟨zz14⟩, ⟨zz85⟩⟩
              rw [if_neg c95] at H
              have c95b0 := decide_eq_false c95
              clear c95
              have HC105 := Aside0.mk H
              clear H
              obtain ⟨Ao106, co106, eo106⟩ := Kd.R_slice HO_11.out
              subst eo106
              go_upto_region 21 with (fail)
              go_cut [2] (fun v2 wc => ∃ (kq : Nat) (x2_104 : Bool), v2 = .bool x2_104 ∧ Aside0 (laws_FnLog.j3 kq x2_104 = some r) ∧ Aside0 (kq ≤ k3) ∧ Aside0 (wc.heap[gb580]? = some (.cells #[.string t575, .string t576, .int .i64 t577] 26 (0, 0))) ∧ Aside0 (wc.heap[gb581]? = some (.cells #[.string t578, .string t579] 40 (0, 0))) ∧ Aside0 (wc.heap[gb586]? = some (.cells #[.string t582, .string t583, .int .i64 t584] 26 (0, 0))) ∧ Aside0 (wc.heap[gb591]? = some (.cells #[.string t587, .string t588, .int .i64 t589] 26 (0, 0))) ∧ Aside0 (wc.heap[gb609]? = some (.cells #[.string t604, .string t605, .int .i64 t606] 26 (0, 0))) ∧ Aside0 (wc.heap[gb614]? = some (.cells #[.string t610, .string t611, .int .i64 t612] 26 (0, 0))) ∧ Aside0 (Below w.heap.size w wc))
              case first =>
                have H := HC105.out
                clear HC105
                by_cases c107 : 0 ≤ (t600.length : Int)
                rotate_left
                · rw [if_neg c107] at H
                  exact absurd H (by simp)
                rw [if_pos c107] at H
                have c107b0 := decide_eq_true c107
                have c107b1 : decide (0 ≤ t600.length) = true := decide_eq_true (by omega)
                clear c107
                (first | rw [c107b0] | (simp only [i64_w, i32_w]; rw [c107b0]) | skip)
                by_cases c108 : (t600.length : Int) < (t596.length : Int)
                rotate_left
                · rw [if_neg c108] at H
                  exact absurd H (by simp)
                rw [if_pos c108] at H
                have c108b0 := decide_eq_true c108
                have c108b1 : decide (t600.length < t596.length) = true := decide_eq_true (Int.ofNat_lt.mp c108)
                clear c108
                by_cases c109 : ((((rd_T40 t596 (t600.length : Int)).f0).toList) == t578.toList && ((((rd_T40 t596 (t600.length : Int)).f1).toList) == t579.toList)) = true
                rotate_left
                · rw [if_neg c109] at H
                  have c109b0 : ((((rd_T40 t596 (t600.length : Int)).f0).toList) == t578.toList && ((((rd_T40 t596 (t600.length : Int)).f1).toList) == t579.toList)) = false := by simpa using c109
                  (try (have c109b1 : decide ((((rd_T40 t596 (t600.length : Int)).f0).toList) = t578.toList && ((((rd_T40 t596 (t600.length : Int)).f1).toList) == t579.toList)) = false := by simpa using c109))
                  (try (have c109b2 : ((((rd_T40 t596 (t600.length : Int)).f0).toList) == t578.toList && ((((rd_T40 t596 (t600.length : Int)).f1).toList) == t579.toList)) = false := by simpa using c109))
                  (try (have c109b3 : ¬ ((((rd_T40 t596 (t600.length : Int)).f0).toList) = t578.toList && ((((rd_T40 t596 (t600.length : Int)).f1).toList) == t579.toList)) := by simpa using c109))
                  clear c109
                  have H' := Aside0.mk H
                  clear H
                  try go_wp2
                  refine qs9 (Kd.R_drew HO_9.out) (Kd.R_drew HO_11.out) (blk_drew BK580.out) (blk_drew BK581.out) (blk_drew BK586.out) (blk_drew BK591.out) (blk_drew BK609.out) (blk_drew BK614.out) (below_drew1 HB.out) ?_; clear HO_9 HO_11 BK580 BK581 BK586 BK591 BK609 BK614 HB; intro HO_9 HO_11 BK580 BK581 BK586 BK591 BK609 BK614 HB
                  obtain ⟨Ao128, co128, eo128⟩ := Kd.R_slice HO_9.out
                  (first | subst eo128 | (injection eo128 with f1_ f2_ f3_; have f4_ := f1_.symm; have f5_ := f3_.symm; clear f1_ f2_ f3_; subst f4_; subst f5_))
                  have p617 : 0 ≤ ((t600.length : Int) : Int) := of_decide_eq_true zz4
                  have q617 : (t600.length : Int) < (t596.length : Int) := of_decide_eq_true zz4
                  obtain ⟨ad617, e617, hx617_0, hx617_1⟩ := at_T40 (Kd.R_reads' HO_9.out).2.2 (t600.length : Int) p617 q617
                  cases e617
                  (try simp only [Go.IntWalk.toNatUp] at hx617_0)
                  (try simp only [Go.IntWalk.toNatUp] at hx617_1)
                  replace p617 := eq_true p617
                  replace q617 := eq_true q617
                  refine start_ (n := 33) (S := fun w' => w'.cell? ⟨gb581, 0, none⟩ = some (.string t578) ∧ w'.cell? ⟨gb581, 1, none⟩ = some (.string t579) ∧ w'.cell? (ad617.add (t600.length * 2)) = some (.string ((rd_T40 t596 (t600.length : Int)).f0)) ∧ w'.cell? ⟨(ad617.add (t600.length * 2)).block, (ad617.add (t600.length * 2)).off + 1, none⟩ = some (.string ((rd_T40 t596 (t600.length : Int)).f1))) (ds := []) #[false, false, false, false, false, false, false, false, false, false, false, false, false, false, false, false, false, false, false, false, false, false, false, false, false, false, false, false, false, false, false, false, false] (by kernel_rfl) rfl rfl ⟨(blk_cell BK581.out 0).trans rfl, (blk_cell BK581.out 1).trans rfl, hx617_0, hx617_1⟩ (fun hHeld => ?_); refine with_tabW laws_FnLog.tab21 laws_FnLog.bits21 (fun HT_ HW_ => ?_)
                  generalize wr.drew = w127 at HO_9 HO_11 BK580 BK581 BK586 BK591 BK609 BK614 HB hx617_0 hx617_1 hHeld ⊢
                  refine qp 0 122 ?_; refine qp 1 123 ?_; refine qp 2 124 ?_; refine qp 3 125 ?_; refine qt4 4 126 ?_; refine qt4 5 127 ?_; refine qp 6 128 ?_; refine qp 7 129 ?_; refine qu 8 130 ?_; refine qp 9 131 ?_; refine qp 10 132 ?_; refine qu 11 133 ?_; refine qu 12 134 ?_; refine qu 13 135 ?_; refine qu 14 136 ?_; refine qu 15 137 ?_; refine qu 16 138 ?_; refine qu 17 139 ?_; refine qu 18 140 ?_; refine qp 19 141 ?_; refine qp 20 142 ?_; refine qu 21 143 ?_; refine qp 22 144 ?_; refine qp 23 145 ?_; refine qu 24 146 ?_; refine qu 25 147 ?_; refine qu 26 148 ?_; refine qp 27 149 ?_; refine qp 28 150 ?_; refine qu 29 151 ?_; refine qu 30 152 ?_; refine qp 31 153 ?_; refine qp 32 2 ?_
                  refine done_ (done_of HT_.out (by kernel_rfl)) ?_
                  try go_wp2
                  go_meet
                  case rel => exact ⟨_, (false), zz3, H', ⟨zz6⟩, ⟨zz9⟩, ⟨zz10⟩, ⟨zz11⟩, ⟨zz12⟩, ⟨zz13⟩, ⟨zz14⟩, ⟨zz85⟩⟩
                rw [if_pos c109] at H
                have c109b0 := c109
                (try (have c109b1 : decide ((((rd_T40 t596 (t600.length : Int)).f0).toList) = t578.toList && ((((rd_T40 t596 (t600.length : Int)).f1).toList) == t579.toList)) = true := by simpa using c109))
                (try (have c109b2 : ((((rd_T40 t596 (t600.length : Int)).f0).toList) == t578.toList && ((((rd_T40 t596 (t600.length : Int)).f1).toList) == t579.toList)) = true := by simpa using c109))
                clear c109
                by_cases c110 : t608 = true
                rotate_left
                · replace c110 := Bool.eq_false_iff.mpr c110
                  subst c110
                  rw [if_neg (show ¬ (false = true) by decide)] at H
                  have H' := Aside0.mk H
                  clear H
                  try go_wp2
                  refine qs9 (Kd.R_drew HO_9.out) (Kd.R_drew HO_11.out) (blk_drew BK580.out) (blk_drew BK581.out) (blk_drew BK586.out) (blk_drew BK591.out) (blk_drew BK609.out) (blk_drew BK614.out) (below_drew1 HB.out) ?_; clear HO_9 HO_11 BK580 BK581 BK586 BK591 BK609 BK614 HB; intro HO_9 HO_11 BK580 BK581 BK586 BK591 BK609 BK614 HB
                  obtain ⟨Ao126, co126, eo126⟩ := Kd.R_slice HO_9.out
                  (first | subst eo126 | (injection eo126 with f1_ f2_ f3_; have f4_ := f1_.symm; have f5_ := f3_.symm; clear f1_ f2_ f3_; subst f4_; subst f5_))
                  have p617 : 0 ≤ ((t600.length : Int) : Int) := of_decide_eq_true zz4
                  have q617 : (t600.length : Int) < (t596.length : Int) := of_decide_eq_true zz4
                  obtain ⟨ad617, e617, hx617_0, hx617_1⟩ := at_T40 (Kd.R_reads' HO_9.out).2.2 (t600.length : Int) p617 q617
                  cases e617
                  (try simp only [Go.IntWalk.toNatUp] at hx617_0)
                  (try simp only [Go.IntWalk.toNatUp] at hx617_1)
                  replace p617 := eq_true p617
                  replace q617 := eq_true q617
                  refine start_ (n := 33) (S := fun w' => w'.cell? ⟨gb581, 0, none⟩ = some (.string t578) ∧ w'.cell? ⟨gb581, 1, none⟩ = some (.string t579) ∧ w'.cell? (ad617.add (t600.length * 2)) = some (.string ((rd_T40 t596 (t600.length : Int)).f0)) ∧ w'.cell? ⟨(ad617.add (t600.length * 2)).block, (ad617.add (t600.length * 2)).off + 1, none⟩ = some (.string ((rd_T40 t596 (t600.length : Int)).f1))) (ds := []) #[false, false, false, false, false, false, false, false, false, false, false, false, false, false, false, false, false, false, false, false, false, false, false, false, false, false, false, false, false, false, false, false, false] (by kernel_rfl) rfl rfl ⟨(blk_cell BK581.out 0).trans rfl, (blk_cell BK581.out 1).trans rfl, hx617_0, hx617_1⟩ (fun hHeld => ?_); refine with_tabW laws_FnLog.tab21 laws_FnLog.bits21 (fun HT_ HW_ => ?_)
                  generalize wr.drew = w125 at HO_9 HO_11 BK580 BK581 BK586 BK591 BK609 BK614 HB hx617_0 hx617_1 hHeld ⊢
                  refine qp 0 122 ?_; refine qp 1 123 ?_; refine qp 2 124 ?_; refine qp 3 125 ?_; refine qt4 4 126 ?_; refine qt4 5 127 ?_; refine qp 6 128 ?_; refine qp 7 129 ?_; refine qp 8 130 ?_; refine qp 9 131 ?_; refine qp 10 132 ?_; refine qu 11 133 ?_; refine qu 12 134 ?_; refine qu 13 135 ?_; refine qu 14 136 ?_; refine qu 15 137 ?_; refine qu 16 138 ?_; refine qu 17 139 ?_; refine qu 18 140 ?_; refine qp 19 141 ?_; refine qp 20 142 ?_; refine qu 21 143 ?_; refine qp 22 144 ?_; refine qp 23 145 ?_; refine qu 24 146 ?_; refine qu 25 147 ?_; refine qu 26 148 ?_; refine qp 27 149 ?_; refine qp 28 150 ?_; refine qu 29 151 ?_; refine qu 30 152 ?_; refine qp 31 153 ?_; refine qp 32 2 ?_
                  refine done_ (done_of HT_.out (by kernel_rfl)) ?_
                  try go_wp2
                  go_meet
                  case rel => exact ⟨_, (false), zz3, H', ⟨zz6⟩, ⟨zz9⟩, ⟨zz10⟩, ⟨zz11⟩, ⟨zz12⟩, ⟨zz13⟩, ⟨zz14⟩, ⟨zz85⟩⟩
                subst c110
                rw [if_pos rfl] at H
                by_cases c111 : t582.size + t583.size ≤ 9223372036854775807
                rotate_left
                · rw [if_neg c111] at H
                  exact absurd H (by simp)
                rw [if_pos c111] at H
                have c111b0 := eq_true c111
                have c111b1 := decide_eq_true c111
                try have c111b2 := eq_false (Nat.not_lt.2 c111)
                clear c111
                by_cases c112 : t607 = ((cat t582 t583).size : Int)
                rotate_left
                · rw [if_neg c112] at H
                  have c112b0 := beq_eq_false_iff_ne.mpr c112
                  have c112b1 := bne_iff_ne.mpr c112
                  have H' := Aside0.mk H
                  clear H
                  try go_wp2
                  refine qs9 (Kd.R_drew HO_9.out) (Kd.R_drew HO_11.out) (blk_drew BK580.out) (blk_drew BK581.out) (blk_drew BK586.out) (blk_drew BK591.out) (blk_drew BK609.out) (blk_drew BK614.out) (below_drew1 HB.out) ?_; clear HO_9 HO_11 BK580 BK581 BK586 BK591 BK609 BK614 HB; intro HO_9 HO_11 BK580 BK581 BK586 BK591 BK609 BK614 HB
                  obtain ⟨Ao124, co124, eo124⟩ := Kd.R_slice HO_9.out
                  (first | subst eo124 | (injection eo124 with f1_ f2_ f3_; have f4_ := f1_.symm; have f5_ := f3_.symm; clear f1_ f2_ f3_; subst f4_; subst f5_))
                  have p617 : 0 ≤ ((t600.length : Int) : Int) := of_decide_eq_true zz4
                  have q617 : (t600.length : Int) < (t596.length : Int) := of_decide_eq_true zz4
                  obtain ⟨ad617, e617, hx617_0, hx617_1⟩ := at_T40 (Kd.R_reads' HO_9.out).2.2 (t600.length : Int) p617 q617
                  cases e617
                  (try simp only [Go.IntWalk.toNatUp] at hx617_0)
                  (try simp only [Go.IntWalk.toNatUp] at hx617_1)
                  replace p617 := eq_true p617
                  replace q617 := eq_true q617
                  refine start_ (n := 33) (S := fun w' => w'.cell? ⟨gb581, 0, none⟩ = some (.string t578) ∧ w'.cell? ⟨gb581, 1, none⟩ = some (.string t579) ∧ w'.cell? ⟨gb586, 0, none⟩ = some (.string t582) ∧ w'.cell? ⟨gb586, 1, none⟩ = some (.string t583) ∧ w'.cell? ⟨gb586, 2, none⟩ = some (.int .i64 t584) ∧ w'.cell? (ad617.add (t600.length * 2)) = some (.string ((rd_T40 t596 (t600.length : Int)).f0)) ∧ w'.cell? ⟨(ad617.add (t600.length * 2)).block, (ad617.add (t600.length * 2)).off + 1, none⟩ = some (.string ((rd_T40 t596 (t600.length : Int)).f1))) (ds := []) #[false, false, false, false, false, false, false, false, false, false, false, false, false, false, false, false, false, false, false, false, false, false, false, false, false, false, false, false, false, false, false, false, false] (by kernel_rfl) rfl rfl ⟨(blk_cell BK581.out 0).trans rfl, (blk_cell BK581.out 1).trans rfl, (blk_cell BK586.out 0).trans rfl, (blk_cell BK586.out 1).trans rfl, (blk_cell BK586.out 2).trans rfl, hx617_0, hx617_1⟩ (fun hHeld => ?_); refine with_tabW laws_FnLog.tab21 laws_FnLog.bits21 (fun HT_ HW_ => ?_)
                  generalize wr.drew = w123 at HO_9 HO_11 BK580 BK581 BK586 BK591 BK609 BK614 HB hx617_0 hx617_1 hHeld ⊢
                  refine qp 0 122 ?_; refine qp 1 123 ?_; refine qp 2 124 ?_; refine qp 3 125 ?_; refine qt7 4 126 ?_; refine qt7 5 127 ?_; refine qp 6 128 ?_; refine qp 7 129 ?_; refine qp 8 130 ?_; refine qp 9 131 ?_; refine qp 10 132 ?_; refine qp 11 133 ?_; refine qp 12 134 ?_; refine qp 14 136 ?_; refine qt7 13 135 ?_; refine qt7 15 137 ?_; refine qp 16 138 ?_; refine qp 17 139 ?_; refine qp 18 140 ?_; refine qp 19 141 ?_; refine qp 20 142 ?_; refine qu 21 143 ?_; refine qp 22 144 ?_; refine qp 23 145 ?_; refine qu 24 146 ?_; refine qu 25 147 ?_; refine qu 26 148 ?_; refine qp 27 149 ?_; refine qp 28 150 ?_; refine qu 29 151 ?_; refine qu 30 152 ?_; refine qp 31 153 ?_; refine qp 32 2 ?_
                  refine done_ (done_of HT_.out (by kernel_rfl)) ?_
                  try go_wp2
                  go_meet
                  case rel => exact ⟨_, (false), zz3, H', ⟨zz6⟩, ⟨zz9⟩, ⟨zz10⟩, ⟨zz11⟩, ⟨zz12⟩, ⟨zz13⟩, ⟨zz14⟩, ⟨zz85⟩⟩
                rw [if_pos c112] at H
                have c112b0 := beq_iff_eq.mpr c112
                have c112b1 := bne_eq_false_iff_eq.mpr c112
                clear c112
                by_cases c113 : t613 = true
                rotate_left
                · replace c113 := Bool.eq_false_iff.mpr c113
                  subst c113
                  rw [if_neg (show ¬ (false = true) by decide)] at H
                  have H' := Aside0.mk H
                  clear H
                  try go_wp2
                  refine qs9 (Kd.R_drew HO_9.out) (Kd.R_drew HO_11.out) (blk_drew BK580.out) (blk_drew BK581.out) (blk_drew BK586.out) (blk_drew BK591.out) (blk_drew BK609.out) (blk_drew BK614.out) (below_drew1 HB.out) ?_; clear HO_9 HO_11 BK580 BK581 BK586 BK591 BK609 BK614 HB; intro HO_9 HO_11 BK580 BK581 BK586 BK591 BK609 BK614 HB
                  obtain ⟨Ao122, co122, eo122⟩ := Kd.R_slice HO_9.out
                  (first | subst eo122 | (injection eo122 with f1_ f2_ f3_; have f4_ := f1_.symm; have f5_ := f3_.symm; clear f1_ f2_ f3_; subst f4_; subst f5_))
                  have p617 : 0 ≤ ((t600.length : Int) : Int) := of_decide_eq_true zz4
                  have q617 : (t600.length : Int) < (t596.length : Int) := of_decide_eq_true zz4
                  obtain ⟨ad617, e617, hx617_0, hx617_1⟩ := at_T40 (Kd.R_reads' HO_9.out).2.2 (t600.length : Int) p617 q617
                  cases e617
                  (try simp only [Go.IntWalk.toNatUp] at hx617_0)
                  (try simp only [Go.IntWalk.toNatUp] at hx617_1)
                  replace p617 := eq_true p617
                  replace q617 := eq_true q617
                  refine start_ (n := 33) (S := fun w' => w'.cell? ⟨gb581, 0, none⟩ = some (.string t578) ∧ w'.cell? ⟨gb581, 1, none⟩ = some (.string t579) ∧ w'.cell? ⟨gb586, 0, none⟩ = some (.string t582) ∧ w'.cell? ⟨gb586, 1, none⟩ = some (.string t583) ∧ w'.cell? ⟨gb586, 2, none⟩ = some (.int .i64 t584) ∧ w'.cell? (ad617.add (t600.length * 2)) = some (.string ((rd_T40 t596 (t600.length : Int)).f0)) ∧ w'.cell? ⟨(ad617.add (t600.length * 2)).block, (ad617.add (t600.length * 2)).off + 1, none⟩ = some (.string ((rd_T40 t596 (t600.length : Int)).f1))) (ds := []) #[false, false, false, false, false, false, false, false, false, false, false, false, false, false, false, false, false, false, false, false, false, false, false, false, false, false, false, false, false, false, false, false, false] (by kernel_rfl) rfl rfl ⟨(blk_cell BK581.out 0).trans rfl, (blk_cell BK581.out 1).trans rfl, (blk_cell BK586.out 0).trans rfl, (blk_cell BK586.out 1).trans rfl, (blk_cell BK586.out 2).trans rfl, hx617_0, hx617_1⟩ (fun hHeld => ?_); refine with_tabW laws_FnLog.tab21 laws_FnLog.bits21 (fun HT_ HW_ => ?_)
                  generalize wr.drew = w121 at HO_9 HO_11 BK580 BK581 BK586 BK591 BK609 BK614 HB hx617_0 hx617_1 hHeld ⊢
                  refine qp 0 122 ?_; refine qp 1 123 ?_; refine qp 2 124 ?_; refine qp 3 125 ?_; refine qt7 4 126 ?_; refine qt7 5 127 ?_; refine qp 6 128 ?_; refine qp 7 129 ?_; refine qp 8 130 ?_; refine qp 9 131 ?_; refine qp 10 132 ?_; refine qp 11 133 ?_; refine qp 12 134 ?_; refine qp 14 136 ?_; refine qt7 13 135 ?_; refine qt7 15 137 ?_; refine qp 16 138 ?_; refine qp 17 139 ?_; refine qp 18 140 ?_; refine qp 19 141 ?_; refine qp 20 142 ?_; refine qp 21 143 ?_; refine qp 22 144 ?_; refine qp 23 145 ?_; refine qu 24 146 ?_; refine qu 25 147 ?_; refine qu 26 148 ?_; refine qp 27 149 ?_; refine qp 28 150 ?_; refine qu 29 151 ?_; refine qu 30 152 ?_; refine qp 31 153 ?_; refine qp 32 2 ?_
                  refine done_ (done_of HT_.out (by kernel_rfl)) ?_
                  try go_wp2
                  go_meet
                  case rel => exact ⟨_, (false), zz3, H', ⟨zz6⟩, ⟨zz9⟩, ⟨zz10⟩, ⟨zz11⟩, ⟨zz12⟩, ⟨zz13⟩, ⟨zz14⟩, ⟨zz85⟩⟩
                subst c113
                rw [if_pos rfl] at H
                by_cases c114 : (t610.toList == t604.toList && (t611.toList == t605.toList && (t612 == t606))) = true
                rotate_left
                · rw [if_neg c114] at H
                  have c114b0 : (t610.toList == t604.toList && (t611.toList == t605.toList && (t612 == t606))) = false := by simpa using c114
                  (try (have c114b1 : decide (t610.toList = t604.toList && (t611.toList == t605.toList && (t612 == t606))) = false := by simpa using c114))
                  (try (have c114b2 : (t610.toList == t604.toList && (t611.toList == t605.toList && (t612 == t606))) = false := by simpa using c114))
                  (try (have c114b3 : ¬ (t610.toList = t604.toList && (t611.toList == t605.toList && (t612 == t606))) := by simpa using c114))
                  clear c114
                  have H' := Aside0.mk H
                  clear H
                  try go_wp2
                  refine qs9 (Kd.R_drew HO_9.out) (Kd.R_drew HO_11.out) (blk_drew BK580.out) (blk_drew BK581.out) (blk_drew BK586.out) (blk_drew BK591.out) (blk_drew BK609.out) (blk_drew BK614.out) (below_drew1 HB.out) ?_; clear HO_9 HO_11 BK580 BK581 BK586 BK591 BK609 BK614 HB; intro HO_9 HO_11 BK580 BK581 BK586 BK591 BK609 BK614 HB
                  obtain ⟨Ao120, co120, eo120⟩ := Kd.R_slice HO_9.out
                  (first | subst eo120 | (injection eo120 with f1_ f2_ f3_; have f4_ := f1_.symm; have f5_ := f3_.symm; clear f1_ f2_ f3_; subst f4_; subst f5_))
                  have p617 : 0 ≤ ((t600.length : Int) : Int) := of_decide_eq_true zz4
                  have q617 : (t600.length : Int) < (t596.length : Int) := of_decide_eq_true zz4
                  obtain ⟨ad617, e617, hx617_0, hx617_1⟩ := at_T40 (Kd.R_reads' HO_9.out).2.2 (t600.length : Int) p617 q617
                  cases e617
                  (try simp only [Go.IntWalk.toNatUp] at hx617_0)
                  (try simp only [Go.IntWalk.toNatUp] at hx617_1)
                  replace p617 := eq_true p617
                  replace q617 := eq_true q617
                  refine start_ (n := 33) (S := fun w' => w'.cell? ⟨gb581, 0, none⟩ = some (.string t578) ∧ w'.cell? ⟨gb581, 1, none⟩ = some (.string t579) ∧ w'.cell? ⟨gb586, 0, none⟩ = some (.string t582) ∧ w'.cell? ⟨gb586, 1, none⟩ = some (.string t583) ∧ w'.cell? ⟨gb586, 2, none⟩ = some (.int .i64 t584) ∧ w'.cell? ⟨gb614, 0, none⟩ = some (.string t610) ∧ w'.cell? ⟨gb614, 1, none⟩ = some (.string t611) ∧ w'.cell? ⟨gb614, 2, none⟩ = some (.int .i64 t612) ∧ w'.cell? ⟨gb609, 0, none⟩ = some (.string t604) ∧ w'.cell? ⟨gb609, 1, none⟩ = some (.string t605) ∧ w'.cell? ⟨gb609, 2, none⟩ = some (.int .i64 t606) ∧ w'.cell? (ad617.add (t600.length * 2)) = some (.string ((rd_T40 t596 (t600.length : Int)).f0)) ∧ w'.cell? ⟨(ad617.add (t600.length * 2)).block, (ad617.add (t600.length * 2)).off + 1, none⟩ = some (.string ((rd_T40 t596 (t600.length : Int)).f1))) (ds := []) #[false, false, false, false, false, false, false, false, false, false, false, false, false, false, false, false, false, false, false, false, false, false, false, false, false, false, false, false, false, false, false, false, false] (by kernel_rfl) rfl rfl ⟨(blk_cell BK581.out 0).trans rfl, (blk_cell BK581.out 1).trans rfl, (blk_cell BK586.out 0).trans rfl, (blk_cell BK586.out 1).trans rfl, (blk_cell BK586.out 2).trans rfl, (blk_cell BK614.out 0).trans rfl, (blk_cell BK614.out 1).trans rfl, (blk_cell BK614.out 2).trans rfl, (blk_cell BK609.out 0).trans rfl, (blk_cell BK609.out 1).trans rfl, (blk_cell BK609.out 2).trans rfl, hx617_0, hx617_1⟩ (fun hHeld => ?_); refine with_tabW laws_FnLog.tab21 laws_FnLog.bits21 (fun HT_ HW_ => ?_)
                  generalize wr.drew = w119 at HO_9 HO_11 BK580 BK581 BK586 BK591 BK609 BK614 HB hx617_0 hx617_1 hHeld ⊢
                  refine qp 0 122 ?_; refine qp 1 123 ?_; refine qp 2 124 ?_; refine qp 3 125 ?_; refine qt13 4 126 ?_; refine qt13 5 127 ?_; refine qp 6 128 ?_; refine qp 7 129 ?_; refine qp 8 130 ?_; refine qp 9 131 ?_; refine qp 10 132 ?_; refine qp 11 133 ?_; refine qp 12 134 ?_; refine qp 14 136 ?_; refine qt13 13 135 ?_; refine qt13 15 137 ?_; refine qp 16 138 ?_; refine qp 17 139 ?_; refine qp 18 140 ?_; refine qp 19 141 ?_; refine qp 20 142 ?_; refine qp 21 143 ?_; refine qp 22 144 ?_; refine qp 23 145 ?_; refine qt13 24 146 ?_; refine qt13 25 147 ?_; refine qp 26 148 ?_; refine qp 27 149 ?_; refine qp 28 150 ?_; refine qu 29 151 ?_; refine qu 30 152 ?_; refine qp 31 153 ?_; refine qp 32 2 ?_
                  refine done_ (done_of HT_.out (by kernel_rfl)) ?_
                  try go_wp2
                  go_meet
                  case rel => exact ⟨_, (false), zz3, H', ⟨zz6⟩, ⟨zz9⟩, ⟨zz10⟩, ⟨zz11⟩, ⟨zz12⟩, ⟨zz13⟩, ⟨zz14⟩, ⟨zz85⟩⟩
                rw [if_pos c114] at H
                have c114b0 := c114
                (try (have c114b1 : decide (t610.toList = t604.toList && (t611.toList == t605.toList && (t612 == t606))) = true := by simpa using c114))
                (try (have c114b2 : (t610.toList == t604.toList && (t611.toList == t605.toList && (t612 == t606))) = true := by simpa using c114))
                clear c114
                replace H := Option.bind_eq_some_iff.mp H
                obtain ⟨t618, A1150, H⟩ := H
                (try dsimp only at H)
                have A115 := Aside0.mk A1150
                clear A1150
                have H' := Aside0.mk H
                clear H
                try go_wp2
                refine qs9 (Kd.R_drew HO_9.out) (Kd.R_drew HO_11.out) (blk_drew BK580.out) (blk_drew BK581.out) (blk_drew BK586.out) (blk_drew BK591.out) (blk_drew BK609.out) (blk_drew BK614.out) (below_drew1 HB.out) ?_; clear HO_9 HO_11 BK580 BK581 BK586 BK591 BK609 BK614 HB; intro HO_9 HO_11 BK580 BK581 BK586 BK591 BK609 BK614 HB
                obtain ⟨Ao117, co117, eo117⟩ := Kd.R_slice HO_9.out
                (first | subst eo117 | (injection eo117 with f1_ f2_ f3_; have f4_ := f1_.symm; have f5_ := f3_.symm; clear f1_ f2_ f3_; subst f4_; subst f5_))
                have p617 : 0 ≤ ((t600.length : Int) : Int) := of_decide_eq_true zz4
                have q617 : (t600.length : Int) < (t596.length : Int) := of_decide_eq_true zz4
                obtain ⟨ad617, e617, hx617_0, hx617_1⟩ := at_T40 (Kd.R_reads' HO_9.out).2.2 (t600.length : Int) p617 q617
                cases e617
                (try simp only [Go.IntWalk.toNatUp] at hx617_0)
                (try simp only [Go.IntWalk.toNatUp] at hx617_1)
                replace p617 := eq_true p617
                replace q617 := eq_true q617
                refine start_ (n := 33) (S := fun w' => w'.cell? ⟨gb581, 0, none⟩ = some (.string t578) ∧ w'.cell? ⟨gb581, 1, none⟩ = some (.string t579) ∧ w'.cell? ⟨gb586, 0, none⟩ = some (.string t582) ∧ w'.cell? ⟨gb586, 1, none⟩ = some (.string t583) ∧ w'.cell? ⟨gb586, 2, none⟩ = some (.int .i64 t584) ∧ w'.cell? ⟨gb614, 0, none⟩ = some (.string t610) ∧ w'.cell? ⟨gb614, 1, none⟩ = some (.string t611) ∧ w'.cell? ⟨gb614, 2, none⟩ = some (.int .i64 t612) ∧ w'.cell? ⟨gb609, 0, none⟩ = some (.string t604) ∧ w'.cell? ⟨gb609, 1, none⟩ = some (.string t605) ∧ w'.cell? ⟨gb609, 2, none⟩ = some (.int .i64 t606) ∧ w'.cell? (ad617.add (t600.length * 2)) = some (.string ((rd_T40 t596 (t600.length : Int)).f0)) ∧ w'.cell? ⟨(ad617.add (t600.length * 2)).block, (ad617.add (t600.length * 2)).off + 1, none⟩ = some (.string ((rd_T40 t596 (t600.length : Int)).f1))) (ds := []) #[false, false, false, false, false, false, false, false, false, false, false, false, false, false, false, false, false, false, false, false, false, false, false, false, false, false, false, false, false, false, false, false, false] (by kernel_rfl) rfl rfl ⟨(blk_cell BK581.out 0).trans rfl, (blk_cell BK581.out 1).trans rfl, (blk_cell BK586.out 0).trans rfl, (blk_cell BK586.out 1).trans rfl, (blk_cell BK586.out 2).trans rfl, (blk_cell BK614.out 0).trans rfl, (blk_cell BK614.out 1).trans rfl, (blk_cell BK614.out 2).trans rfl, (blk_cell BK609.out 0).trans rfl, (blk_cell BK609.out 1).trans rfl, (blk_cell BK609.out 2).trans rfl, hx617_0, hx617_1⟩ (fun hHeld => ?_); refine with_tabW laws_FnLog.tab21 laws_FnLog.bits21 (fun HT_ HW_ => ?_)
                generalize wr.drew = w116 at HO_9 HO_11 BK580 BK581 BK586 BK591 BK609 BK614 HB hx617_0 hx617_1 hHeld ⊢
                refine qp 0 122 ?_; refine qp 1 123 ?_; refine qp 2 124 ?_; refine qp 3 125 ?_; refine qt13 4 126 ?_; refine qt13 5 127 ?_; refine qp 6 128 ?_; refine qp 7 129 ?_; refine qp 8 130 ?_; refine qp 9 131 ?_; refine qp 10 132 ?_; refine qp 11 133 ?_; refine qp 12 134 ?_; refine qp 14 136 ?_; refine qt13 13 135 ?_; refine qt13 15 137 ?_; refine qp 16 138 ?_; refine qp 17 139 ?_; refine qp 18 140 ?_; refine qp 19 141 ?_; refine qp 20 142 ?_; refine qp 21 143 ?_; refine qp 22 144 ?_; refine qp 23 145 ?_; refine qt13 24 146 ?_; refine qt13 25 147 ?_; refine qp 26 148 ?_; refine qp 27 149 ?_; refine qp 28 150 ?_; refine qt13 29 151 ?_
                refine one_ (i := 30) (N := some 152) #[true, true, true, true, true, true, true, true, true, true, true, true, true, true, true, true, true, true, true, true, true, true, true, true, true, true, true, true, true, true, true, false, false] rfl rfl (one_of HT_.out (by kernel_rfl)) (by decide) (fun K hK => ?_)
                refine goes_ Tryd.func14 (by kernel_rfl) rfl #[.agg #[.string t582, .string t583, .int .i64 t584]] (by rfl) rfl rfl zz21 ?_
                with_reducible refine (impl_IsValidLog.calls k3 t582 t583 t584 t618 _ ?side1 A115.out).mono ?_
                (case side1 => exact Gl.below HG.out zz85)
                rintro e w118 ⟨rfl, hb⟩
                have HS11_ := (hb.cell (World.block_lt_of_cell? _ _ (hHeld.2.2.2.2.2.2.2.2.2.2.2.1))).trans (hHeld.2.2.2.2.2.2.2.2.2.2.2.1)
                have HS12_ := (hb.cell (World.block_lt_of_cell? _ _ (hHeld.2.2.2.2.2.2.2.2.2.2.2.2))).trans (hHeld.2.2.2.2.2.2.2.2.2.2.2.2)
                refine ⟨_, rfl, ?_⟩
                refine qs9 (Kd.R_below (qr HO_9.out) hb) (Kd.R_below (qr HO_11.out) hb) (blk_below (qb BK580.out) hb) (blk_below (qb BK581.out) hb) (blk_below (qb BK586.out) hb) (blk_below (qb BK591.out) hb) (blk_below (qb BK609.out) hb) (blk_below (qb BK614.out) hb) (below_step zz85 hb) ?_; clear HO_9 HO_11 BK580 BK581 BK586 BK591 BK609 BK614 HB; intro HO_9 HO_11 BK580 BK581 BK586 BK591 BK609 BK614 HB
                (try clear hb)
                (try clear hb2)
                (try clear hk)
                (try clear hi)
                refine hK.out _ _ ⟨(blk_cell BK581.out 0).trans rfl, (blk_cell BK581.out 1).trans rfl, (blk_cell BK586.out 0).trans rfl, (blk_cell BK586.out 1).trans rfl, (blk_cell BK586.out 2).trans rfl, (blk_cell BK614.out 0).trans rfl, (blk_cell BK614.out 1).trans rfl, (blk_cell BK614.out 2).trans rfl, (blk_cell BK609.out 0).trans rfl, (blk_cell BK609.out 1).trans rfl, (blk_cell BK609.out 2).trans rfl, HS11_, HS12_⟩ (fun hHeld => ?_)
                clear hK K
                refine norm_ (a' := ?_) ?_ ?_
                rotate_left
                · show Act.put _ (some 152) _ = _
                  simp only [Act.put, List.setIfInBounds_toArray, List.set_cons_zero, List.set_cons_succ, i64_w, i32_w]
                  rfl
                refine qp 31 153 ?_; refine qp 32 2 ?_
                refine done_ (done_of HT_.out (by kernel_rfl)) ?_
                try go_wp2
                go_meet
                case rel => exact ⟨_, (t618), zz3, H', ⟨zz6⟩, ⟨zz9⟩, ⟨zz10⟩, ⟨zz11⟩, ⟨zz12⟩, ⟨zz13⟩, ⟨zz14⟩, ⟨zz85⟩⟩
              case rest =>
                clear HC105
                try clear c1
                try clear p2
                try clear p6
                try clear q6
                try clear hx6
                try clear c10
                try clear c11
                try clear p61
                try clear q61
                try clear hx61
                try clear c107
                try clear c108
                try clear c109
                try clear c109b0
                try clear c109b1
                try clear c109b2
                try clear c110
                try clear c111
                try clear hx617_0
                try clear hx617_1
                try clear p617
                try clear q617
                obtain ⟨kq, x2_104, rfl, HA, HJ104, BK580, BK581, BK586, BK591, BK609, BK614, HB⟩ := hcut
                cases kq with
                | zero => exact absurd HA.out (by simp [laws_FnLog.j3])
                | succ kj104 =>
                  have H := HA.out
                  clear HA
                  simp only [laws_FnLog.j3] at H
                  obtain rfl := Option.some.inj H
                  go_wp2
                  go_ret
                  exact ⟨zz7, zz85⟩

/-- THE ONE PURE STATEMENT of laws_FnLog: yours. -/
def laws_FnLog.Pure : Prop := ∀ (l0 : List Int), l0.length ≤ maxLen → l0.length * 1 ≤ 140737488351232 → (∀ x ∈ l0, (Lit.int .u8 x).wf = true) → ∃ k, laws_FnLog.f k l0 = some true
theorem laws_FnLog.walk (P : laws_FnLog.Pure) (a0 : Option Addr) (len0 cap0 : Nat) (z0 : List Int) (w : World) (hG : Gl w) (w0 : (a0 = none ∧ len0 = 0 ∧ cap0 = 0 ∧ z0 = []) ∨ ∃ x, a0 = some x ∧ len0 ≤ cap0 ∧ cap0 ≤ maxLen ∧ z0.length = cap0 ∧ (∀ i, i < z0.length → w.cell? (x.add i) = some (.int .u8 (z0.getD i 0))) ∧ ∀ n ∈ z0, (Lit.int .u8 n).wf = true) (y0 : len0 * 1 ≤ 140737488351232) :
    Calls Tryd.prog 9 #[.slice a0 len0 cap0] w fun e w' => e = .returned (.bool true) ∧ Below w.heap.size w w' := by
  obtain ⟨l0, rfl, hr0, hm0, hw0, hc0⟩ := ReadsInt.ofRowC w0
  obtain ⟨k, h⟩ := P l0 hm0 y0 hw0
  refine (laws_FnLog.calls k _ _ l0 true w (Kd.C_of_reads (d := (0 : Int)) (h1 := fun _ => rfl) hr0) hc0 hG h).mono ?_
  rintro e w' ⟨rfl, hd⟩
  exact ⟨rfl, hd⟩

end

end Go.Proofs.YtokmidpeeejahaaDoor.G
