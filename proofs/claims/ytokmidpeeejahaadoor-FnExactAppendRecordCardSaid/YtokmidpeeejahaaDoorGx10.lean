-- Written by a program of this session (wip/pd.py), which calls the kit's print; externals' contracts by hand.
import Derived.Test.YtokmidpeeejahaaDoorGx0
import Derived.Test.YtokmidpeeejahaaDoorGx3
import Derived.Test.YtokmidpeeejahaaDoorGx5
import Derived.Test.YtokmidpeeejahaaDoorGx7
import Derived.Test.YtokmidpeeejahaaDoorGx8
import Derived.Test.YtokmidpeeejahaaDoorGx9
namespace Go.Proofs.YtokmidpeeejahaaDoor.G
open Go.RowKit Go.Proofs.YtokmidpeeejahaaDoorW.PrintWords Go.Proofs.YtokmidpeeejahaaDoorW.PrintLast Go.Proofs.YtokmidpeeejahaaDoorW.PrintMore
attribute [local go_sem] max2_int min2_int max_two min_two max_three min_three max_four min_four   -- for this text's walks alone
set_option linter.unusedVariables false
set_option linter.unusedSimpArgs false

section
attribute [local go_sem high] run_add_cat run_slice_cat run_slice_cat_h run_slice_cat_l run_slice_cat_all
/-! ### laws_FnExactAppendRecord: function 6 -/
def laws_FnExactAppendRecord.j0 : Nat → Bool → Option (Bool)
  | 0, _ => none
  | k + 1, x44 => if x44 = true then (some false) else (some true)
def laws_FnExactAppendRecord.f (k : Nat) (a0_0 : ByteArray) (a0_1 : ByteArray) (a0_2 : Int) (a1_0 : ByteArray) (a1_1 : ByteArray) : Option (Bool) := (laws_szLog.f a0_0 a0_1 a0_2 1048576).bind fun t279 => (if t279 < 0 then (some true) else ((laws_szLogRecord.f a1_0 a1_1 t279).bind fun t280 => (if t280 < 0 then (some true) else ((laws_toLog.f a0_0 a0_1 a0_2).bind fun bt281 => ((laws_toLogRecord.f a1_0 a1_1).bind fun bt284 => ((spec_AppendRecord.f k bt281.1 bt281.2.1 bt281.2.2 bt284.1 bt284.2).bind fun bt286 => ((laws_toLog.f a0_0 a0_1 a0_2).bind fun bt291 => ((laws_toLogRecord.f a1_0 a1_1).bind fun bt294 => ((impl_AppendRecord.f k bt291.1 bt291.2.1 bt291.2.2 bt294.1 bt294.2).bind fun bt296 => ((laws_eqLog.f bt296.1 bt296.2.1 bt296.2.2.1 bt286.1 bt286.2.1 bt286.2.2.1).bind fun t301 => (if t301 = true then (laws_FnExactAppendRecord.j0 k (bt296.2.2.2 != bt286.2.2.2)) else (laws_FnExactAppendRecord.j0 k true))))))))))))
theorem laws_FnExactAppendRecord.mono_l : ∀ k, (∀ y0, LeO (laws_FnExactAppendRecord.j0 k y0) (laws_FnExactAppendRecord.j0 (k + 1) y0))
  | 0 => fun _ r h => by simp [laws_FnExactAppendRecord.j0] at h
  | k + 1 => by
    have ih0 := laws_FnExactAppendRecord.mono_l k
    · intro y0
      unfold laws_FnExactAppendRecord.j0
      repeat' first
      | (with_reducible exact ih0 _)
      | (with_reducible exact impl_AppendRecord.mono _ _ _ _ _ _)
      | (with_reducible exact spec_AppendRecord.mono _ _ _ _ _ _)
      | (with_reducible exact LeO.refl _)
      | (with_reducible exact LeO.none _)
      | (with_reducible refine LeO.ite ?_ ?_)
      | (with_reducible refine LeO.bind ?_ (fun _ => ?_))
      | exact ih0 _
      | exact impl_AppendRecord.mono _ _ _ _ _ _
      | exact spec_AppendRecord.mono _ _ _ _ _ _
      | exact LeO.none _
      | refine LeO.ite ?_ ?_
      | refine LeO.bind ?_ (fun _ => ?_)
theorem laws_FnExactAppendRecord.mono : ∀ a0 a1 a2 a3 a4 k, LeO (laws_FnExactAppendRecord.f k a0 a1 a2 a3 a4) (laws_FnExactAppendRecord.f (k + 1) a0 a1 a2 a3 a4) := by
  intro a0 a1 a2 a3 a4 k
  have ih0 := laws_FnExactAppendRecord.mono_l k
  unfold laws_FnExactAppendRecord.f
  repeat' first
      | (with_reducible exact ih0 _)
      | (with_reducible exact impl_AppendRecord.mono _ _ _ _ _ _)
      | (with_reducible exact spec_AppendRecord.mono _ _ _ _ _ _)
      | (with_reducible exact LeO.refl _)
      | (with_reducible exact LeO.none _)
      | (with_reducible refine LeO.ite ?_ ?_)
      | (with_reducible refine LeO.bind ?_ (fun _ => ?_))
      | exact ih0 _
      | exact impl_AppendRecord.mono _ _ _ _ _ _
      | exact spec_AppendRecord.mono _ _ _ _ _ _
      | exact LeO.none _
      | refine LeO.ite ?_ ?_
      | refine LeO.bind ?_ (fun _ => ?_)
def laws_FnExactAppendRecord.T8 : Bool × List (List Nat × List Nat) := (true, [([], []), ([0], [0]), ([], []), ([2, 1], [2]), ([1, 3, 3], [1, 3]), ([4], [4]), ([5], [5]), ([5], [5]), ([], []), ([8, 6, 4, 0, 1, 2, 3, 4, 5, 6, 8], [6, 8]), ([7, 9, 0, 1, 2, 3, 4, 5, 6, 7, 8, 9], [7])])
def laws_FnExactAppendRecord.B8 : List Nat := [0, 1, 0, 7, 15, 31, 63, 63, 0, 383, 1023]
theorem laws_FnExactAppendRecord.tab8 : rtab .any (opsOf Tryd.f6 8) = laws_FnExactAppendRecord.T8 := by kernel_rfl
theorem laws_FnExactAppendRecord.bits8 : waitsOk laws_FnExactAppendRecord.T8.2 laws_FnExactAppendRecord.B8 = true := by kernel_rfl
def laws_FnExactAppendRecord.T9 : Bool × List (List Nat × List Nat) := (true, [([], []), ([0], [0]), ([], []), ([2, 1], [2]), ([1, 3, 3], [1, 3]), ([4], [4]), ([5], [5]), ([5], [5]), ([], []), ([8, 6, 4, 0, 1, 2, 3, 4, 5, 6, 8], [6, 8]), ([7, 9, 0, 1, 2, 3, 4, 5, 6, 7, 8, 9], [7])])
def laws_FnExactAppendRecord.B9 : List Nat := [0, 1, 0, 7, 15, 31, 63, 63, 0, 383, 1023]
theorem laws_FnExactAppendRecord.tab9 : rtab .any (opsOf Tryd.f6 9) = laws_FnExactAppendRecord.T9 := by kernel_rfl
theorem laws_FnExactAppendRecord.bits9 : waitsOk laws_FnExactAppendRecord.T9.2 laws_FnExactAppendRecord.B9 = true := by kernel_rfl
set_option maxHeartbeats 8000000 in
set_option maxRecDepth 100000 in
theorem laws_FnExactAppendRecord.calls (k : Nat) (a0_0 : ByteArray) (a0_1 : ByteArray) (a0_2 : Int) (a1_0 : ByteArray) (a1_1 : ByteArray) (r : Bool) (w : World) (hG : Gl w) (h : laws_FnExactAppendRecord.f k a0_0 a0_1 a0_2 a1_0 a1_1 = some r) :
    Calls Tryd.prog 6 #[.agg #[.string a0_0, .string a0_1, .int .i64 a0_2], .agg #[.string a1_0, .string a1_1]] w fun e w' => e = .returned (.bool r) ∧ Below w.heap.size w w' := by
  have hu23 := Tryd.underlying23
  have hu36 := Tryd.underlying36
  have hu26 := Tryd.underlying26
  have HG := Aside0.mk hG
  clear hG
  have HB := Aside0.mk (Below.refl w.heap.size w)
  have H : ((laws_szLog.f a0_0 a0_1 a0_2 1048576).bind fun t279 => (if t279 < 0 then (some true) else ((laws_szLogRecord.f a1_0 a1_1 t279).bind fun t280 => (if t280 < 0 then (some true) else ((laws_toLog.f a0_0 a0_1 a0_2).bind fun bt281 => ((laws_toLogRecord.f a1_0 a1_1).bind fun bt284 => ((spec_AppendRecord.f k bt281.1 bt281.2.1 bt281.2.2 bt284.1 bt284.2).bind fun bt286 => ((laws_toLog.f a0_0 a0_1 a0_2).bind fun bt291 => ((laws_toLogRecord.f a1_0 a1_1).bind fun bt294 => ((impl_AppendRecord.f k bt291.1 bt291.2.1 bt291.2.2 bt294.1 bt294.2).bind fun bt296 => ((laws_eqLog.f bt296.1 bt296.2.1 bt296.2.2.1 bt286.1 bt286.2.1 bt286.2.2.1).bind fun t301 => (if t301 = true then (laws_FnExactAppendRecord.j0 k (bt296.2.2.2 != bt286.2.2.2)) else (laws_FnExactAppendRecord.j0 k true))))))))))))) = some r := h
  clear h
  replace H := Option.bind_eq_some_iff.mp H
  obtain ⟨t279, A30, H⟩ := H
  replace H : (if t279 < 0 then (some true) else ((laws_szLogRecord.f a1_0 a1_1 t279).bind fun t280 => (if t280 < 0 then (some true) else ((laws_toLog.f a0_0 a0_1 a0_2).bind fun bt281 => ((laws_toLogRecord.f a1_0 a1_1).bind fun bt284 => ((spec_AppendRecord.f k bt281.1 bt281.2.1 bt281.2.2 bt284.1 bt284.2).bind fun bt286 => ((laws_toLog.f a0_0 a0_1 a0_2).bind fun bt291 => ((laws_toLogRecord.f a1_0 a1_1).bind fun bt294 => ((impl_AppendRecord.f k bt291.1 bt291.2.1 bt291.2.2 bt294.1 bt294.2).bind fun bt296 => ((laws_eqLog.f bt296.1 bt296.2.1 bt296.2.2.1 bt286.1 bt286.2.1 bt286.2.2.1).bind fun t301 => (if t301 = true then (laws_FnExactAppendRecord.j0 k (bt296.2.2.2 != bt286.2.2.2)) else (laws_FnExactAppendRecord.j0 k true)))))))))))) = some r := H
  have A3 := Aside0.mk A30
  clear A30
  by_cases c4 : t279 < 0
  · rw [if_pos c4] at H
    have c4b0 : decide (t279 < 0) = true := decide_eq_true c4
    clear c4
    obtain rfl := Option.some.inj H
    go_enter Tryd.func6, Tryd.ntmps6
    go_wp2_with (first | ((with_reducible refine gate_dst (N := 2) rfl ?_); refine box_event ?hg (N := 2) ?hd (cs := #[.string a0_0, .string a0_1, .int .i64 a0_2]) (t := 23) ?hr ?_; (case hd => rfl); (case hg => rfl); (case hr => first | (go_simp; done) | (go_simp; rfl)); intro gb277 hg w5 hbox hb; have n0_ := Aside0.mk (below_step (by repeat (first | (with_reducible first | exact HB.out | apply below_alloc | apply pw_below_drewN | apply below_drew1) | exact HB.out)) hb); have n1_ := Aside0.mk (hbox); have n2_ := Aside0.mk ((by rw [hg]; exact (below_size (by repeat (first | (with_reducible first | exact HB.out | apply below_alloc | apply pw_below_drewN | apply below_drew1) | exact HB.out))) : w.heap.size ≤ gb277)); have n3_ := Aside0.mk ((by rw [hg]; exact (below_size (by repeat (first | (with_reducible first | exact HB.out | apply below_alloc | apply pw_below_drewN | apply below_drew1) | exact HB.out))) : w.heap.size ≤ gb277)); clear HB; have HB := n0_; have BK277 := n1_; have GW277 := n2_; have GE277 := n3_; clear n0_ n1_ n2_ n3_; clear hb hbox hg) | ((with_reducible refine gate_dst (N := 3) rfl ?_); refine box_event ?hg (N := 3) ?hd (cs := #[.string a1_0, .string a1_1]) (t := 36) ?hr ?_; (case hd => rfl); (case hg => rfl); (case hr => first | (go_simp; done) | (go_simp; rfl)); intro gb278 hg w6 hbox hb; have n0_ := Aside0.mk (blk_below (g := gb277) (o := .cells #[.string a0_0, .string a0_1, .int .i64 a0_2] 23 (0, 0)) (by (with_reducible repeat (first | refine blk_drewN ?_ _ | refine blk_drew ?_ | refine blk_alloc ?_ _)); exact BK277.out) hb); have n1_ := Aside0.mk (below_step (by repeat (first | (with_reducible first | exact HB.out | apply below_alloc | apply pw_below_drewN | apply below_drew1 | refine below_set ?_ GE277.out) | exact HB.out)) hb); have n2_ := Aside0.mk (hbox); have n3_ := Aside0.mk ((by rw [hg]; exact (below_size (by repeat (first | (with_reducible first | exact HB.out | apply below_alloc | apply pw_below_drewN | apply below_drew1 | refine below_set ?_ GE277.out) | exact HB.out))) : w.heap.size ≤ gb278)); have n4_ := Aside0.mk ((by rw [hg]; exact (below_size (by repeat (first | (with_reducible first | exact HB.out | apply below_alloc | apply pw_below_drewN | apply below_drew1 | refine below_set ?_ GE277.out) | exact HB.out))) : w.heap.size ≤ gb278)); have n5_ := Aside0.mk ((by rw [hg]; exact Nat.ne_of_lt (blk_lt (g := gb277) (o := .cells #[.string a0_0, .string a0_1, .int .i64 a0_2] 23 (0, 0)) (by (with_reducible repeat (first | refine blk_drewN ?_ _ | refine blk_drew ?_ | refine blk_alloc ?_ _)); exact BK277.out)) : gb277 ≠ gb278)); have n6_ := Aside0.mk ((by rw [hg]; exact Nat.ne_of_gt (blk_lt (g := gb277) (o := .cells #[.string a0_0, .string a0_1, .int .i64 a0_2] 23 (0, 0)) (by (with_reducible repeat (first | refine blk_drewN ?_ _ | refine blk_drew ?_ | refine blk_alloc ?_ _)); exact BK277.out)) : gb278 ≠ gb277)); clear BK277; clear HB; have BK277 := n0_; have HB := n1_; have BK278 := n2_; have GW278 := n3_; have GE278 := n4_; have NB277_278 := n5_; have NB278_277 := n6_; clear n0_ n1_ n2_ n3_ n4_ n5_ n6_; clear hb hbox hg; have hnb7 := NB277_278.out; have hnc7 := NB278_277.out; have hcz8_0 : w6.cell? ⟨gb277, 0, none⟩ = some (.string a0_0) := (blk_cell BK277.out 0).trans rfl; have hcz8_1 : w6.cell? ⟨gb277, 1, none⟩ = some (.string a0_1) := (blk_cell BK277.out 1).trans rfl; have hcz8_2 : w6.cell? ⟨gb277, 2, none⟩ = some (.int .i64 a0_2) := (blk_cell BK277.out 2).trans rfl; have hfz8_0 := blk_frozen BK277.out 0; have hfz8_1 := blk_frozen BK277.out 1; have hfz8_2 := blk_frozen BK277.out 2) | ((with_reducible refine gate_callee (f := 11) rfl ?_); refine goesL_ (some 12) rfl rfl Tryd.func11 (by kernel_rfl) rfl #[.agg #[.string a0_0, .string a0_1, .int .i64 a0_2], .int .i64 1048576] rfl (by (try simp only [List.map_toArray, List.map_cons, List.map_nil]); first | done | rfl | (simp only [List.length_drop, List.length_take]; rfl)) ?_; (with_reducible refine (laws_szLog.calls a0_0 a0_1 a0_2 1048576 t279 _ A3.out).mono ?_); rintro e w9 ⟨rfl, hb⟩; refine ⟨_, rfl, ?_⟩; have n0_ := Aside0.mk (blk_below (g := gb277) (o := .cells #[.string a0_0, .string a0_1, .int .i64 a0_2] 23 (0, 0)) (by (with_reducible repeat (first | refine blk_drewN ?_ _ | refine blk_drew ?_ | refine blk_alloc ?_ _)); exact BK277.out) hb); have n1_ := Aside0.mk (blk_below (g := gb278) (o := .cells #[.string a1_0, .string a1_1] 36 (0, 0)) (by (with_reducible repeat (first | refine blk_drewN ?_ _ | refine blk_drew ?_ | refine blk_alloc ?_ _)); exact BK278.out) hb); have n2_ := Aside0.mk (below_step (by repeat (first | (with_reducible first | exact HB.out | apply below_alloc | apply pw_below_drewN | apply below_drew1 | refine below_set ?_ GE277.out | refine below_set ?_ GE278.out) | exact HB.out)) hb); clear BK277; clear BK278; clear HB; have BK277 := n0_; have BK278 := n1_; have HB := n2_; clear n0_ n1_ n2_; (try clear hb); (try clear hb2); (try clear hk); (try clear hi)))
    go_ret
    exact ⟨by first | rfl | (simp [errW_none, errW_some] <;> rfl) | (simp [*, errW_none, errW_some] <;> rfl), by repeat (first | (with_reducible first | exact HB.out | apply below_alloc | apply pw_below_drewN | apply below_drew1 | refine below_set ?_ GE277.out | refine below_set ?_ GE278.out) | exact HB.out)⟩
  · rw [if_neg c4] at H
    have c4b0 : decide (t279 < 0) = false := decide_eq_false c4
    clear c4
    replace H := Option.bind_eq_some_iff.mp H
    obtain ⟨t280, A100, H⟩ := H
    replace H : (if t280 < 0 then (some true) else ((laws_toLog.f a0_0 a0_1 a0_2).bind fun bt281 => ((laws_toLogRecord.f a1_0 a1_1).bind fun bt284 => ((spec_AppendRecord.f k bt281.1 bt281.2.1 bt281.2.2 bt284.1 bt284.2).bind fun bt286 => ((laws_toLog.f a0_0 a0_1 a0_2).bind fun bt291 => ((laws_toLogRecord.f a1_0 a1_1).bind fun bt294 => ((impl_AppendRecord.f k bt291.1 bt291.2.1 bt291.2.2 bt294.1 bt294.2).bind fun bt296 => ((laws_eqLog.f bt296.1 bt296.2.1 bt296.2.2.1 bt286.1 bt286.2.1 bt286.2.2.1).bind fun t301 => (if t301 = true then (laws_FnExactAppendRecord.j0 k (bt296.2.2.2 != bt286.2.2.2)) else (laws_FnExactAppendRecord.j0 k true)))))))))) = some r := H
    have A10 := Aside0.mk A100
    clear A100
    by_cases c11 : t280 < 0
    · rw [if_pos c11] at H
      have c11b0 : decide (t280 < 0) = true := decide_eq_true c11
      clear c11
      obtain rfl := Option.some.inj H
      go_enter Tryd.func6, Tryd.ntmps6
      go_wp2_with (first | ((with_reducible refine gate_dst (N := 2) rfl ?_); refine box_event ?hg (N := 2) ?hd (cs := #[.string a0_0, .string a0_1, .int .i64 a0_2]) (t := 23) ?hr ?_; (case hd => rfl); (case hg => rfl); (case hr => first | (go_simp; done) | (go_simp; rfl)); intro gb277 hg w12 hbox hb; have n0_ := Aside0.mk (below_step (by repeat (first | (with_reducible first | exact HB.out | apply below_alloc | apply pw_below_drewN | apply below_drew1) | exact HB.out)) hb); have n1_ := Aside0.mk (hbox); have n2_ := Aside0.mk ((by rw [hg]; exact (below_size (by repeat (first | (with_reducible first | exact HB.out | apply below_alloc | apply pw_below_drewN | apply below_drew1) | exact HB.out))) : w.heap.size ≤ gb277)); have n3_ := Aside0.mk ((by rw [hg]; exact (below_size (by repeat (first | (with_reducible first | exact HB.out | apply below_alloc | apply pw_below_drewN | apply below_drew1) | exact HB.out))) : w.heap.size ≤ gb277)); clear HB; have HB := n0_; have BK277 := n1_; have GW277 := n2_; have GE277 := n3_; clear n0_ n1_ n2_ n3_; clear hb hbox hg) | ((with_reducible refine gate_dst (N := 3) rfl ?_); refine box_event ?hg (N := 3) ?hd (cs := #[.string a1_0, .string a1_1]) (t := 36) ?hr ?_; (case hd => rfl); (case hg => rfl); (case hr => first | (go_simp; done) | (go_simp; rfl)); intro gb278 hg w13 hbox hb; have n0_ := Aside0.mk (blk_below (g := gb277) (o := .cells #[.string a0_0, .string a0_1, .int .i64 a0_2] 23 (0, 0)) (by (with_reducible repeat (first | refine blk_drewN ?_ _ | refine blk_drew ?_ | refine blk_alloc ?_ _)); exact BK277.out) hb); have n1_ := Aside0.mk (below_step (by repeat (first | (with_reducible first | exact HB.out | apply below_alloc | apply pw_below_drewN | apply below_drew1 | refine below_set ?_ GE277.out) | exact HB.out)) hb); have n2_ := Aside0.mk (hbox); have n3_ := Aside0.mk ((by rw [hg]; exact (below_size (by repeat (first | (with_reducible first | exact HB.out | apply below_alloc | apply pw_below_drewN | apply below_drew1 | refine below_set ?_ GE277.out) | exact HB.out))) : w.heap.size ≤ gb278)); have n4_ := Aside0.mk ((by rw [hg]; exact (below_size (by repeat (first | (with_reducible first | exact HB.out | apply below_alloc | apply pw_below_drewN | apply below_drew1 | refine below_set ?_ GE277.out) | exact HB.out))) : w.heap.size ≤ gb278)); have n5_ := Aside0.mk ((by rw [hg]; exact Nat.ne_of_lt (blk_lt (g := gb277) (o := .cells #[.string a0_0, .string a0_1, .int .i64 a0_2] 23 (0, 0)) (by (with_reducible repeat (first | refine blk_drewN ?_ _ | refine blk_drew ?_ | refine blk_alloc ?_ _)); exact BK277.out)) : gb277 ≠ gb278)); have n6_ := Aside0.mk ((by rw [hg]; exact Nat.ne_of_gt (blk_lt (g := gb277) (o := .cells #[.string a0_0, .string a0_1, .int .i64 a0_2] 23 (0, 0)) (by (with_reducible repeat (first | refine blk_drewN ?_ _ | refine blk_drew ?_ | refine blk_alloc ?_ _)); exact BK277.out)) : gb278 ≠ gb277)); clear BK277; clear HB; have BK277 := n0_; have HB := n1_; have BK278 := n2_; have GW278 := n3_; have GE278 := n4_; have NB277_278 := n5_; have NB278_277 := n6_; clear n0_ n1_ n2_ n3_ n4_ n5_ n6_; clear hb hbox hg; have hnb14 := NB277_278.out; have hnc14 := NB278_277.out; have hcz15_0 : w13.cell? ⟨gb277, 0, none⟩ = some (.string a0_0) := (blk_cell BK277.out 0).trans rfl; have hcz15_1 : w13.cell? ⟨gb277, 1, none⟩ = some (.string a0_1) := (blk_cell BK277.out 1).trans rfl; have hcz15_2 : w13.cell? ⟨gb277, 2, none⟩ = some (.int .i64 a0_2) := (blk_cell BK277.out 2).trans rfl; have hfz15_0 := blk_frozen BK277.out 0; have hfz15_1 := blk_frozen BK277.out 1; have hfz15_2 := blk_frozen BK277.out 2) | ((with_reducible refine gate_callee (f := 11) rfl ?_); refine goesL_ (some 12) rfl rfl Tryd.func11 (by kernel_rfl) rfl #[.agg #[.string a0_0, .string a0_1, .int .i64 a0_2], .int .i64 1048576] rfl (by (try simp only [List.map_toArray, List.map_cons, List.map_nil]); first | done | rfl | (simp only [List.length_drop, List.length_take]; rfl)) ?_; (with_reducible refine (laws_szLog.calls a0_0 a0_1 a0_2 1048576 t279 _ A3.out).mono ?_); rintro e w16 ⟨rfl, hb⟩; refine ⟨_, rfl, ?_⟩; have n0_ := Aside0.mk (blk_below (g := gb277) (o := .cells #[.string a0_0, .string a0_1, .int .i64 a0_2] 23 (0, 0)) (by (with_reducible repeat (first | refine blk_drewN ?_ _ | refine blk_drew ?_ | refine blk_alloc ?_ _)); exact BK277.out) hb); have n1_ := Aside0.mk (blk_below (g := gb278) (o := .cells #[.string a1_0, .string a1_1] 36 (0, 0)) (by (with_reducible repeat (first | refine blk_drewN ?_ _ | refine blk_drew ?_ | refine blk_alloc ?_ _)); exact BK278.out) hb); have n2_ := Aside0.mk (below_step (by repeat (first | (with_reducible first | exact HB.out | apply below_alloc | apply pw_below_drewN | apply below_drew1 | refine below_set ?_ GE277.out | refine below_set ?_ GE278.out) | exact HB.out)) hb); clear BK277; clear BK278; clear HB; have BK277 := n0_; have BK278 := n1_; have HB := n2_; clear n0_ n1_ n2_; (try clear hb); (try clear hb2); (try clear hk); (try clear hi); have hcz17_0 : w16.cell? ⟨gb278, 0, none⟩ = some (.string a1_0) := (blk_cell BK278.out 0).trans rfl; have hcz17_1 : w16.cell? ⟨gb278, 1, none⟩ = some (.string a1_1) := (blk_cell BK278.out 1).trans rfl; have hfz17_0 := blk_frozen BK278.out 0; have hfz17_1 := blk_frozen BK278.out 1) | ((with_reducible refine gate_callee (f := 20) rfl ?_); refine goesL_ (some 17) rfl rfl Tryd.func20 (by kernel_rfl) rfl #[.agg #[.string a1_0, .string a1_1], .int .i64 t279] rfl (by (try simp only [List.map_toArray, List.map_cons, List.map_nil]); first | done | rfl | (simp only [List.length_drop, List.length_take]; rfl)) ?_; (with_reducible refine (laws_szLogRecord.calls a1_0 a1_1 t279 t280 _ A10.out).mono ?_); rintro e w18 ⟨rfl, hb⟩; refine ⟨_, rfl, ?_⟩; have n0_ := Aside0.mk (blk_below (g := gb277) (o := .cells #[.string a0_0, .string a0_1, .int .i64 a0_2] 23 (0, 0)) (by (with_reducible repeat (first | refine blk_drewN ?_ _ | refine blk_drew ?_ | refine blk_alloc ?_ _)); exact BK277.out) hb); have n1_ := Aside0.mk (blk_below (g := gb278) (o := .cells #[.string a1_0, .string a1_1] 36 (0, 0)) (by (with_reducible repeat (first | refine blk_drewN ?_ _ | refine blk_drew ?_ | refine blk_alloc ?_ _)); exact BK278.out) hb); have n2_ := Aside0.mk (below_step (by repeat (first | (with_reducible first | exact HB.out | apply below_alloc | apply pw_below_drewN | apply below_drew1 | refine below_set ?_ GE277.out | refine below_set ?_ GE278.out) | exact HB.out)) hb); clear BK277; clear BK278; clear HB; have BK277 := n0_; have BK278 := n1_; have HB := n2_; clear n0_ n1_ n2_; (try clear hb); (try clear hb2); (try clear hk); (try clear hi)))
      go_ret
      exact ⟨by first | rfl | (simp [errW_none, errW_some] <;> rfl) | (simp [*, errW_none, errW_some] <;> rfl), by repeat (first | (with_reducible first | exact HB.out | apply below_alloc | apply pw_below_drewN | apply below_drew1 | refine below_set ?_ GE277.out | refine below_set ?_ GE278.out) | exact HB.out)⟩
    · rw [if_neg c11] at H
      have c11b0 : decide (t280 < 0) = false := decide_eq_false c11
      clear c11
      replace H := Option.bind_eq_some_iff.mp H
      obtain ⟨⟨t281, t282, t283⟩, A190, H⟩ := H
      replace H : ((laws_toLogRecord.f a1_0 a1_1).bind fun bt284 => ((spec_AppendRecord.f k t281 t282 t283 bt284.1 bt284.2).bind fun bt286 => ((laws_toLog.f a0_0 a0_1 a0_2).bind fun bt291 => ((laws_toLogRecord.f a1_0 a1_1).bind fun bt294 => ((impl_AppendRecord.f k bt291.1 bt291.2.1 bt291.2.2 bt294.1 bt294.2).bind fun bt296 => ((laws_eqLog.f bt296.1 bt296.2.1 bt296.2.2.1 bt286.1 bt286.2.1 bt286.2.2.1).bind fun t301 => (if t301 = true then (laws_FnExactAppendRecord.j0 k (bt296.2.2.2 != bt286.2.2.2)) else (laws_FnExactAppendRecord.j0 k true)))))))) = some r := H
      have A19 := Aside0.mk A190
      clear A190
      replace H := Option.bind_eq_some_iff.mp H
      obtain ⟨⟨t284, t285⟩, A200, H⟩ := H
      replace H : ((spec_AppendRecord.f k t281 t282 t283 t284 t285).bind fun bt286 => ((laws_toLog.f a0_0 a0_1 a0_2).bind fun bt291 => ((laws_toLogRecord.f a1_0 a1_1).bind fun bt294 => ((impl_AppendRecord.f k bt291.1 bt291.2.1 bt291.2.2 bt294.1 bt294.2).bind fun bt296 => ((laws_eqLog.f bt296.1 bt296.2.1 bt296.2.2.1 bt286.1 bt286.2.1 bt286.2.2.1).bind fun t301 => (if t301 = true then (laws_FnExactAppendRecord.j0 k (bt296.2.2.2 != bt286.2.2.2)) else (laws_FnExactAppendRecord.j0 k true))))))) = some r := H
      have A20 := Aside0.mk A200
      clear A200
      replace H := Option.bind_eq_some_iff.mp H
      obtain ⟨⟨t286, t287, t288, t289⟩, A210, H⟩ := H
      replace H : ((laws_toLog.f a0_0 a0_1 a0_2).bind fun bt291 => ((laws_toLogRecord.f a1_0 a1_1).bind fun bt294 => ((impl_AppendRecord.f k bt291.1 bt291.2.1 bt291.2.2 bt294.1 bt294.2).bind fun bt296 => ((laws_eqLog.f bt296.1 bt296.2.1 bt296.2.2.1 t286 t287 t288).bind fun t301 => (if t301 = true then (laws_FnExactAppendRecord.j0 k (bt296.2.2.2 != t289)) else (laws_FnExactAppendRecord.j0 k true)))))) = some r := H
      have A21 := Aside0.mk A210
      clear A210
      replace H := Option.bind_eq_some_iff.mp H
      obtain ⟨⟨t291, t292, t293⟩, A220, H⟩ := H
      replace H : ((laws_toLogRecord.f a1_0 a1_1).bind fun bt294 => ((impl_AppendRecord.f k t291 t292 t293 bt294.1 bt294.2).bind fun bt296 => ((laws_eqLog.f bt296.1 bt296.2.1 bt296.2.2.1 t286 t287 t288).bind fun t301 => (if t301 = true then (laws_FnExactAppendRecord.j0 k (bt296.2.2.2 != t289)) else (laws_FnExactAppendRecord.j0 k true))))) = some r := H
      have A22 := Aside0.mk A220
      clear A220
      replace H := Option.bind_eq_some_iff.mp H
      obtain ⟨⟨t294, t295⟩, A230, H⟩ := H
      replace H : ((impl_AppendRecord.f k t291 t292 t293 t294 t295).bind fun bt296 => ((laws_eqLog.f bt296.1 bt296.2.1 bt296.2.2.1 t286 t287 t288).bind fun t301 => (if t301 = true then (laws_FnExactAppendRecord.j0 k (bt296.2.2.2 != t289)) else (laws_FnExactAppendRecord.j0 k true)))) = some r := H
      have A23 := Aside0.mk A230
      clear A230
      replace H := Option.bind_eq_some_iff.mp H
      obtain ⟨⟨t296, t297, t298, t299⟩, A240, H⟩ := H
      replace H : ((laws_eqLog.f t296 t297 t298 t286 t287 t288).bind fun t301 => (if t301 = true then (laws_FnExactAppendRecord.j0 k (t299 != t289)) else (laws_FnExactAppendRecord.j0 k true))) = some r := H
      have A24 := Aside0.mk A240
      clear A240
      have HC25 := Aside0.mk H
      clear H
      go_enter Tryd.func6, Tryd.ntmps6
      try go_wp2_with (first | ((with_reducible refine gate_dst (N := 2) rfl ?_); refine box_event ?hg (N := 2) ?hd (cs := #[.string a0_0, .string a0_1, .int .i64 a0_2]) (t := 23) ?hr ?_; (case hd => rfl); (case hg => rfl); (case hr => first | (go_simp; done) | (go_simp; rfl)); intro gb277 hg w26 hbox hb; have n0_ := Aside0.mk (below_step (by repeat (first | (with_reducible first | exact HB.out | apply below_alloc | apply pw_below_drewN | apply below_drew1) | exact HB.out)) hb); have n1_ := Aside0.mk (hbox); have n2_ := Aside0.mk ((by rw [hg]; exact (below_size (by repeat (first | (with_reducible first | exact HB.out | apply below_alloc | apply pw_below_drewN | apply below_drew1) | exact HB.out))) : w.heap.size ≤ gb277)); have n3_ := Aside0.mk ((by rw [hg]; exact (below_size (by repeat (first | (with_reducible first | exact HB.out | apply below_alloc | apply pw_below_drewN | apply below_drew1) | exact HB.out))) : w.heap.size ≤ gb277)); clear HB; have HB := n0_; have BK277 := n1_; have GW277 := n2_; have GE277 := n3_; clear n0_ n1_ n2_ n3_; clear hb hbox hg) | ((with_reducible refine gate_dst (N := 3) rfl ?_); refine box_event ?hg (N := 3) ?hd (cs := #[.string a1_0, .string a1_1]) (t := 36) ?hr ?_; (case hd => rfl); (case hg => rfl); (case hr => first | (go_simp; done) | (go_simp; rfl)); intro gb278 hg w27 hbox hb; have n0_ := Aside0.mk (blk_below (g := gb277) (o := .cells #[.string a0_0, .string a0_1, .int .i64 a0_2] 23 (0, 0)) (by (with_reducible repeat (first | refine blk_drewN ?_ _ | refine blk_drew ?_ | refine blk_alloc ?_ _)); exact BK277.out) hb); have n1_ := Aside0.mk (below_step (by repeat (first | (with_reducible first | exact HB.out | apply below_alloc | apply pw_below_drewN | apply below_drew1 | refine below_set ?_ GE277.out) | exact HB.out)) hb); have n2_ := Aside0.mk (hbox); have n3_ := Aside0.mk ((by rw [hg]; exact (below_size (by repeat (first | (with_reducible first | exact HB.out | apply below_alloc | apply pw_below_drewN | apply below_drew1 | refine below_set ?_ GE277.out) | exact HB.out))) : w.heap.size ≤ gb278)); have n4_ := Aside0.mk ((by rw [hg]; exact (below_size (by repeat (first | (with_reducible first | exact HB.out | apply below_alloc | apply pw_below_drewN | apply below_drew1 | refine below_set ?_ GE277.out) | exact HB.out))) : w.heap.size ≤ gb278)); have n5_ := Aside0.mk ((by rw [hg]; exact Nat.ne_of_lt (blk_lt (g := gb277) (o := .cells #[.string a0_0, .string a0_1, .int .i64 a0_2] 23 (0, 0)) (by (with_reducible repeat (first | refine blk_drewN ?_ _ | refine blk_drew ?_ | refine blk_alloc ?_ _)); exact BK277.out)) : gb277 ≠ gb278)); have n6_ := Aside0.mk ((by rw [hg]; exact Nat.ne_of_gt (blk_lt (g := gb277) (o := .cells #[.string a0_0, .string a0_1, .int .i64 a0_2] 23 (0, 0)) (by (with_reducible repeat (first | refine blk_drewN ?_ _ | refine blk_drew ?_ | refine blk_alloc ?_ _)); exact BK277.out)) : gb278 ≠ gb277)); clear BK277; clear HB; have BK277 := n0_; have HB := n1_; have BK278 := n2_; have GW278 := n3_; have GE278 := n4_; have NB277_278 := n5_; have NB278_277 := n6_; clear n0_ n1_ n2_ n3_ n4_ n5_ n6_; clear hb hbox hg; have hnb28 := NB277_278.out; have hnc28 := NB278_277.out; have hcz29_0 : w27.cell? ⟨gb277, 0, none⟩ = some (.string a0_0) := (blk_cell BK277.out 0).trans rfl; have hcz29_1 : w27.cell? ⟨gb277, 1, none⟩ = some (.string a0_1) := (blk_cell BK277.out 1).trans rfl; have hcz29_2 : w27.cell? ⟨gb277, 2, none⟩ = some (.int .i64 a0_2) := (blk_cell BK277.out 2).trans rfl; have hfz29_0 := blk_frozen BK277.out 0; have hfz29_1 := blk_frozen BK277.out 1; have hfz29_2 := blk_frozen BK277.out 2) | ((with_reducible refine gate_callee (f := 11) rfl ?_); refine goesL_ (some 12) rfl rfl Tryd.func11 (by kernel_rfl) rfl #[.agg #[.string a0_0, .string a0_1, .int .i64 a0_2], .int .i64 1048576] rfl (by (try simp only [List.map_toArray, List.map_cons, List.map_nil]); first | done | rfl | (simp only [List.length_drop, List.length_take]; rfl)) ?_; (with_reducible refine (laws_szLog.calls a0_0 a0_1 a0_2 1048576 t279 _ A3.out).mono ?_); rintro e w30 ⟨rfl, hb⟩; refine ⟨_, rfl, ?_⟩; have n0_ := Aside0.mk (blk_below (g := gb277) (o := .cells #[.string a0_0, .string a0_1, .int .i64 a0_2] 23 (0, 0)) (by (with_reducible repeat (first | refine blk_drewN ?_ _ | refine blk_drew ?_ | refine blk_alloc ?_ _)); exact BK277.out) hb); have n1_ := Aside0.mk (blk_below (g := gb278) (o := .cells #[.string a1_0, .string a1_1] 36 (0, 0)) (by (with_reducible repeat (first | refine blk_drewN ?_ _ | refine blk_drew ?_ | refine blk_alloc ?_ _)); exact BK278.out) hb); have n2_ := Aside0.mk (below_step (by repeat (first | (with_reducible first | exact HB.out | apply below_alloc | apply pw_below_drewN | apply below_drew1 | refine below_set ?_ GE277.out | refine below_set ?_ GE278.out) | exact HB.out)) hb); clear BK277; clear BK278; clear HB; have BK277 := n0_; have BK278 := n1_; have HB := n2_; clear n0_ n1_ n2_; (try clear hb); (try clear hb2); (try clear hk); (try clear hi); have hcz31_0 : w30.cell? ⟨gb278, 0, none⟩ = some (.string a1_0) := (blk_cell BK278.out 0).trans rfl; have hcz31_1 : w30.cell? ⟨gb278, 1, none⟩ = some (.string a1_1) := (blk_cell BK278.out 1).trans rfl; have hfz31_0 := blk_frozen BK278.out 0; have hfz31_1 := blk_frozen BK278.out 1) | ((with_reducible refine gate_callee (f := 20) rfl ?_); refine goesL_ (some 17) rfl rfl Tryd.func20 (by kernel_rfl) rfl #[.agg #[.string a1_0, .string a1_1], .int .i64 t279] rfl (by (try simp only [List.map_toArray, List.map_cons, List.map_nil]); first | done | rfl | (simp only [List.length_drop, List.length_take]; rfl)) ?_; (with_reducible refine (laws_szLogRecord.calls a1_0 a1_1 t279 t280 _ A10.out).mono ?_); rintro e w32 ⟨rfl, hb⟩; refine ⟨_, rfl, ?_⟩; have n0_ := Aside0.mk (blk_below (g := gb277) (o := .cells #[.string a0_0, .string a0_1, .int .i64 a0_2] 23 (0, 0)) (by (with_reducible repeat (first | refine blk_drewN ?_ _ | refine blk_drew ?_ | refine blk_alloc ?_ _)); exact BK277.out) hb); have n1_ := Aside0.mk (blk_below (g := gb278) (o := .cells #[.string a1_0, .string a1_1] 36 (0, 0)) (by (with_reducible repeat (first | refine blk_drewN ?_ _ | refine blk_drew ?_ | refine blk_alloc ?_ _)); exact BK278.out) hb); have n2_ := Aside0.mk (below_step (by repeat (first | (with_reducible first | exact HB.out | apply below_alloc | apply pw_below_drewN | apply below_drew1 | refine below_set ?_ GE277.out | refine below_set ?_ GE278.out) | exact HB.out)) hb); clear BK277; clear BK278; clear HB; have BK277 := n0_; have BK278 := n1_; have HB := n2_; clear n0_ n1_ n2_; (try clear hb); (try clear hb2); (try clear hk); (try clear hi)))
      have n0_ := Aside0.mk (blk_drew BK277.out)
      have n1_ := Aside0.mk (blk_drew BK278.out)
      have n2_ := Aside0.mk (below_drew1 HB.out)
      clear BK277
      clear BK278
      clear HB
      have BK277 := n0_
      have BK278 := n1_
      have HB := n2_
      clear n0_ n1_ n2_
      refine start_ (n := 11) (S := fun w' => True) (ds := []) #[false, false, false, false, false, false, false, false, false, false, false] (by kernel_rfl) rfl rfl trivial (fun hHeld => ?_); refine with_tabW laws_FnExactAppendRecord.tab8 laws_FnExactAppendRecord.bits8 (fun HT_ HW_ => ?_)
      generalize w32.drew = w33 at BK277 BK278 HB hHeld ⊢
      refine inv_at [0, 1, 2, 3, 4, 5, 6, 7, 8, 9, 10] (fun a0_ b a w' => ∃ (gb290 : Nat) (m8_ : Value), a = putSel a0_ b [(0, 21, .agg #[.string a0_0, .string a0_1, .int .i64 a0_2]), (1, 22, .agg #[.string t281, .string t282, .int .i64 t283]), (2, 23, .agg #[.string a1_0, .string a1_1]), (3, 24, .agg #[.string t284, .string t285]), (4, 25, .tuple #[.agg #[.string t286, .string t287, .int .i64 t288], .int .i64 t289]), (5, 20, .tuple #[.agg #[.string t286, .string t287, .int .i64 t288], .int .i64 t289]), (6, 26, .agg #[.string t286, .string t287, .int .i64 t288]), (7, 27, .int .i64 t289), (8, 6, m8_), (10, 7, .int .i64 t289)] ∧ (w'.heap[gb277]? = some (.cells #[.string a0_0, .string a0_1, .int .i64 a0_2] 23 (0, 0))) ∧ (w'.heap[gb278]? = some (.cells #[.string a1_0, .string a1_1] 36 (0, 0))) ∧ (Below w.heap.size w w') ∧ (b 8 = true → b 9 = false → w'.heap[gb290]? = some (.cells #[.string (⟨#[]⟩ : ByteArray), .string (⟨#[]⟩ : ByteArray), .int .i64 0] 26 (0, 0))) ∧ (b 8 = true → w.heap.size ≤ gb290) ∧ (b 8 = true → w.heap.size ≤ gb290) ∧ (b 8 = true → gb277 ≠ gb290) ∧ (b 8 = true → gb290 ≠ gb277) ∧ (b 8 = true → gb278 ≠ gb290) ∧ (b 8 = true → gb290 ≠ gb278) ∧ (b 9 = true → w'.heap[gb290]? = some (.cells #[.string t286, .string t287, .int .i64 t288] 26 (0, 0))) ∧ (b 8 = true → (m8_ : Value) = .pointer (some ⟨gb290, 0, none⟩))) HT_.out HW_.out (by kernel_rfl) (by kernel_rfl) ?_ ?_ ?_
      · exact ⟨0, .bool false, by simp only [putSel, Bool.false_eq_true, if_false], BK277.out, BK278.out, HB.out, fun h_ => absurd h_ (by decide), fun h_ => absurd h_ (by decide), fun h_ => absurd h_ (by decide), fun h_ => absurd h_ (by decide), fun h_ => absurd h_ (by decide), fun h_ => absurd h_ (by decide), fun h_ => absurd h_ (by decide), fun h_ => absurd h_ (by decide), fun h_ => absurd h_ (by decide)⟩
      · skip
        clear BK277 BK278 HB
        refine steps_cons ?_ ?_
        · rintro b a w' ⟨gb290, m8_, ha, Q_BK277, Q_BK278, Q_HB, Q_BK290, Q_GW290, Q_GE290, Q_NB277_290, Q_NB290_277, Q_NB278_290, Q_NB290_278, Q_BK290_e9, Q_X8_⟩ hb_ hon hoff
          refine ⟨_, rfl, fun K hK => ?_⟩
          have e2 : a.tmps[2]? = some (.pointer (some ⟨gb277, 0, none⟩)) := by rw [ha]; exact (putSel_off rfl).trans rfl
          replace ha := Aside0.mk ha
          have BK277 := Aside0.mk Q_BK277
          have BK278 := Aside0.mk Q_BK278
          have HB := Aside0.mk Q_HB
          have hc0_ : w'.cell? ⟨gb277, 0, none⟩ = some (.string a0_0) := (blk_cell BK277.out 0).trans rfl
          have hc1_ : w'.cell? ⟨gb277, 1, none⟩ = some (.string a0_1) := (blk_cell BK277.out 1).trans rfl
          have hc2_ : w'.cell? ⟨gb277, 2, none⟩ = some (.int .i64 a0_2) := (blk_cell BK277.out 2).trans rfl
          refine value_ (w1 := w') (v := .agg #[.string a0_0, .string a0_1, .int .i64 a0_2]) (by rfl) rfl ?_ ?_
          · go_simp
            (try simp only [i64_w])
            try rfl
          refine hK.out _ _ ⟨gb290, m8_, (by rw [ha.out]; exact putSel_upk 0 hb_ rfl rfl rfl), Q_BK277, Q_BK278, Q_HB, Q_BK290, Q_GW290, Q_GE290, Q_NB277_290, Q_NB290_277, Q_NB278_290, Q_NB290_278, fun h0_ => absurd ((hoff 9 (by kernel_rfl)).symm.trans h0_) (by decide), Q_X8_⟩
        refine steps_cons ?_ ?_
        · rintro b a w' ⟨gb290, m8_, ha, Q_BK277, Q_BK278, Q_HB, Q_BK290, Q_GW290, Q_GE290, Q_NB277_290, Q_NB290_277, Q_NB278_290, Q_NB290_278, Q_BK290_e9, Q_X8_⟩ hb_ hon hoff
          refine ⟨_, rfl, fun K hK => ?_⟩
          have e21 : a.tmps[21]? = some (.agg #[.string a0_0, .string a0_1, .int .i64 a0_2]) := by rw [ha]; exact putSel_on (e := (0, 21, .agg #[.string a0_0, .string a0_1, .int .i64 a0_2])) 0 rfl rfl (hon 0 (by kernel_rfl)) rfl
          replace ha := Aside0.mk ha
          have BK277 := Aside0.mk Q_BK277
          have BK278 := Aside0.mk Q_BK278
          have HB := Aside0.mk Q_HB
          refine goes_ Tryd.func13 (by kernel_rfl) rfl #[.agg #[.string a0_0, .string a0_1, .int .i64 a0_2]] (by rfl) rfl rfl (by first | (simp only [List.map_toArray, List.map_cons, List.map_nil, Act.eval, Array.getD_eq_getD_getElem?, Option.getD_some, e21]; done) | (simp only [List.map_toArray, List.map_cons, List.map_nil, Act.eval, Array.getD_eq_getD_getElem?, Option.getD_some, e21]; rfl)) ?_
          with_reducible refine (laws_toLog.calls a0_0 a0_1 a0_2 t281 t282 t283 _ A19.out).mono ?_
          rintro e w34 ⟨rfl, hb⟩
          refine ⟨_, rfl, ?_⟩
          have n0_ := Aside0.mk (blk_below (g := gb277) (o := .cells #[.string a0_0, .string a0_1, .int .i64 a0_2] 23 (0, 0)) (by (with_reducible repeat (first | refine blk_drewN ?_ _ | refine blk_drew ?_ | refine blk_alloc ?_ _)); exact BK277.out) hb)
          have n1_ := Aside0.mk (blk_below (g := gb278) (o := .cells #[.string a1_0, .string a1_1] 36 (0, 0)) (by (with_reducible repeat (first | refine blk_drewN ?_ _ | refine blk_drew ?_ | refine blk_alloc ?_ _)); exact BK278.out) hb)
          have n2_ := Aside0.mk (below_step (by repeat (first | (with_reducible first | exact HB.out | apply below_alloc | apply pw_below_drewN | apply below_drew1 | refine below_set ?_ GE277.out | refine below_set ?_ GE278.out) | exact HB.out)) hb)
          have z_BK290 := fun (h0_ : b 8 = true) (h1_ : b 9 = false) => (show w34.heap[gb290]? = some (.cells #[.string (⟨#[]⟩ : ByteArray), .string (⟨#[]⟩ : ByteArray), .int .i64 0] 26 (0, 0)) from by first | exact (blk_below (g := gb290) (o := .cells #[.string (⟨#[]⟩ : ByteArray), .string (⟨#[]⟩ : ByteArray), .int .i64 0] 26 (0, 0)) (by (with_reducible repeat (first | refine blk_drewN ?_ _ | refine blk_drew ?_ | refine blk_alloc ?_ _)); exact (Q_BK290 h0_ h1_)) hb))
          clear BK277
          clear BK278
          clear HB
          have BK277 := n0_
          have BK278 := n1_
          have HB := n2_
          clear n0_ n1_ n2_
          (try clear hb)
          (try clear hb2)
          (try clear hk)
          (try clear hi)
          refine hK.out _ _ ⟨gb290, m8_, (by rw [ha.out]; exact putSel_upk 1 hb_ rfl rfl rfl), (by (with_reducible repeat (first | refine blk_drewN ?_ _ | refine blk_drew ?_ | refine blk_alloc ?_ _)); exact BK277.out), (by (with_reducible repeat (first | refine blk_drewN ?_ _ | refine blk_drew ?_ | refine blk_alloc ?_ _)); exact BK278.out), (by repeat (first | (with_reducible first | exact HB.out | apply below_alloc | apply pw_below_drewN | apply below_drew1 | refine below_set ?_ GE277.out | refine below_set ?_ GE278.out) | exact HB.out)), z_BK290, Q_GW290, Q_GE290, Q_NB277_290, Q_NB290_277, Q_NB278_290, Q_NB290_278, fun h0_ => absurd ((hoff 9 (by kernel_rfl)).symm.trans h0_) (by decide), Q_X8_⟩
        refine steps_cons ?_ ?_
        · rintro b a w' ⟨gb290, m8_, ha, Q_BK277, Q_BK278, Q_HB, Q_BK290, Q_GW290, Q_GE290, Q_NB277_290, Q_NB290_277, Q_NB278_290, Q_NB290_278, Q_BK290_e9, Q_X8_⟩ hb_ hon hoff
          refine ⟨_, rfl, fun K hK => ?_⟩
          have e3 : a.tmps[3]? = some (.pointer (some ⟨gb278, 0, none⟩)) := by rw [ha]; exact (putSel_off rfl).trans rfl
          replace ha := Aside0.mk ha
          have BK277 := Aside0.mk Q_BK277
          have BK278 := Aside0.mk Q_BK278
          have HB := Aside0.mk Q_HB
          have hc0_ : w'.cell? ⟨gb278, 0, none⟩ = some (.string a1_0) := (blk_cell BK278.out 0).trans rfl
          have hc1_ : w'.cell? ⟨gb278, 1, none⟩ = some (.string a1_1) := (blk_cell BK278.out 1).trans rfl
          refine value_ (w1 := w') (v := .agg #[.string a1_0, .string a1_1]) (by rfl) rfl ?_ ?_
          · go_simp
            (try simp only [i64_w])
            try rfl
          refine hK.out _ _ ⟨gb290, m8_, (by rw [ha.out]; exact putSel_upk 2 hb_ rfl rfl rfl), Q_BK277, Q_BK278, Q_HB, Q_BK290, Q_GW290, Q_GE290, Q_NB277_290, Q_NB290_277, Q_NB278_290, Q_NB290_278, fun h0_ => absurd ((hoff 9 (by kernel_rfl)).symm.trans h0_) (by decide), Q_X8_⟩
        refine steps_cons ?_ ?_
        · rintro b a w' ⟨gb290, m8_, ha, Q_BK277, Q_BK278, Q_HB, Q_BK290, Q_GW290, Q_GE290, Q_NB277_290, Q_NB290_277, Q_NB278_290, Q_NB290_278, Q_BK290_e9, Q_X8_⟩ hb_ hon hoff
          refine ⟨_, rfl, fun K hK => ?_⟩
          have e23 : a.tmps[23]? = some (.agg #[.string a1_0, .string a1_1]) := by rw [ha]; exact putSel_on (e := (2, 23, .agg #[.string a1_0, .string a1_1])) 2 rfl rfl (hon 2 (by kernel_rfl)) rfl
          replace ha := Aside0.mk ha
          have BK277 := Aside0.mk Q_BK277
          have BK278 := Aside0.mk Q_BK278
          have HB := Aside0.mk Q_HB
          refine goes_ Tryd.func22 (by kernel_rfl) rfl #[.agg #[.string a1_0, .string a1_1]] (by rfl) rfl rfl (by first | (simp only [List.map_toArray, List.map_cons, List.map_nil, Act.eval, Array.getD_eq_getD_getElem?, Option.getD_some, e23]; done) | (simp only [List.map_toArray, List.map_cons, List.map_nil, Act.eval, Array.getD_eq_getD_getElem?, Option.getD_some, e23]; rfl)) ?_
          with_reducible refine (laws_toLogRecord.calls a1_0 a1_1 t284 t285 _ A20.out).mono ?_
          rintro e w36 ⟨rfl, hb⟩
          refine ⟨_, rfl, ?_⟩
          have n0_ := Aside0.mk (blk_below (g := gb277) (o := .cells #[.string a0_0, .string a0_1, .int .i64 a0_2] 23 (0, 0)) (by (with_reducible repeat (first | refine blk_drewN ?_ _ | refine blk_drew ?_ | refine blk_alloc ?_ _)); exact BK277.out) hb)
          have n1_ := Aside0.mk (blk_below (g := gb278) (o := .cells #[.string a1_0, .string a1_1] 36 (0, 0)) (by (with_reducible repeat (first | refine blk_drewN ?_ _ | refine blk_drew ?_ | refine blk_alloc ?_ _)); exact BK278.out) hb)
          have n2_ := Aside0.mk (below_step (by repeat (first | (with_reducible first | exact HB.out | apply below_alloc | apply pw_below_drewN | apply below_drew1 | refine below_set ?_ GE277.out | refine below_set ?_ GE278.out) | exact HB.out)) hb)
          have z_BK290 := fun (h0_ : b 8 = true) (h1_ : b 9 = false) => (show w36.heap[gb290]? = some (.cells #[.string (⟨#[]⟩ : ByteArray), .string (⟨#[]⟩ : ByteArray), .int .i64 0] 26 (0, 0)) from by first | exact (blk_below (g := gb290) (o := .cells #[.string (⟨#[]⟩ : ByteArray), .string (⟨#[]⟩ : ByteArray), .int .i64 0] 26 (0, 0)) (by (with_reducible repeat (first | refine blk_drewN ?_ _ | refine blk_drew ?_ | refine blk_alloc ?_ _)); exact (Q_BK290 h0_ h1_)) hb))
          clear BK277
          clear BK278
          clear HB
          have BK277 := n0_
          have BK278 := n1_
          have HB := n2_
          clear n0_ n1_ n2_
          (try clear hb)
          (try clear hb2)
          (try clear hk)
          (try clear hi)
          refine hK.out _ _ ⟨gb290, m8_, (by rw [ha.out]; exact putSel_upk 3 hb_ rfl rfl rfl), (by (with_reducible repeat (first | refine blk_drewN ?_ _ | refine blk_drew ?_ | refine blk_alloc ?_ _)); exact BK277.out), (by (with_reducible repeat (first | refine blk_drewN ?_ _ | refine blk_drew ?_ | refine blk_alloc ?_ _)); exact BK278.out), (by repeat (first | (with_reducible first | exact HB.out | apply below_alloc | apply pw_below_drewN | apply below_drew1 | refine below_set ?_ GE277.out | refine below_set ?_ GE278.out) | exact HB.out)), z_BK290, Q_GW290, Q_GE290, Q_NB277_290, Q_NB290_277, Q_NB278_290, Q_NB290_278, fun h0_ => absurd ((hoff 9 (by kernel_rfl)).symm.trans h0_) (by decide), Q_X8_⟩
        refine steps_cons ?_ ?_
        · rintro b a w' ⟨gb290, m8_, ha, Q_BK277, Q_BK278, Q_HB, Q_BK290, Q_GW290, Q_GE290, Q_NB277_290, Q_NB290_277, Q_NB278_290, Q_NB290_278, Q_BK290_e9, Q_X8_⟩ hb_ hon hoff
          refine ⟨_, rfl, fun K hK => ?_⟩
          have e22 : a.tmps[22]? = some (.agg #[.string t281, .string t282, .int .i64 t283]) := by rw [ha]; exact putSel_on (e := (1, 22, .agg #[.string t281, .string t282, .int .i64 t283])) 1 rfl rfl (hon 1 (by kernel_rfl)) rfl
          have e24 : a.tmps[24]? = some (.agg #[.string t284, .string t285]) := by rw [ha]; exact putSel_on (e := (3, 24, .agg #[.string t284, .string t285])) 3 rfl rfl (hon 3 (by kernel_rfl)) rfl
          replace ha := Aside0.mk ha
          have BK277 := Aside0.mk Q_BK277
          have BK278 := Aside0.mk Q_BK278
          have HB := Aside0.mk Q_HB
          refine goes_ Tryd.func21 (by kernel_rfl) rfl #[.agg #[.string t281, .string t282, .int .i64 t283], .agg #[.string t284, .string t285]] (by rfl) rfl rfl (by first | (simp only [List.map_toArray, List.map_cons, List.map_nil, Act.eval, Array.getD_eq_getD_getElem?, Option.getD_some, e22, e24]; done) | (simp only [List.map_toArray, List.map_cons, List.map_nil, Act.eval, Array.getD_eq_getD_getElem?, Option.getD_some, e22, e24]; rfl)) ?_
          with_reducible refine (spec_AppendRecord.calls k t281 t282 t283 t284 t285 t286 t287 t288 t289 _ A21.out).mono ?_
          rintro e w37 ⟨rfl, hb⟩
          refine ⟨_, rfl, ?_⟩
          have n0_ := Aside0.mk (blk_below (g := gb277) (o := .cells #[.string a0_0, .string a0_1, .int .i64 a0_2] 23 (0, 0)) (by (with_reducible repeat (first | refine blk_drewN ?_ _ | refine blk_drew ?_ | refine blk_alloc ?_ _)); exact BK277.out) hb)
          have n1_ := Aside0.mk (blk_below (g := gb278) (o := .cells #[.string a1_0, .string a1_1] 36 (0, 0)) (by (with_reducible repeat (first | refine blk_drewN ?_ _ | refine blk_drew ?_ | refine blk_alloc ?_ _)); exact BK278.out) hb)
          have n2_ := Aside0.mk (below_step (by repeat (first | (with_reducible first | exact HB.out | apply below_alloc | apply pw_below_drewN | apply below_drew1 | refine below_set ?_ GE277.out | refine below_set ?_ GE278.out) | exact HB.out)) hb)
          have z_BK290 := fun (h0_ : b 8 = true) (h1_ : b 9 = false) => (show w37.heap[gb290]? = some (.cells #[.string (⟨#[]⟩ : ByteArray), .string (⟨#[]⟩ : ByteArray), .int .i64 0] 26 (0, 0)) from by first | exact (blk_below (g := gb290) (o := .cells #[.string (⟨#[]⟩ : ByteArray), .string (⟨#[]⟩ : ByteArray), .int .i64 0] 26 (0, 0)) (by (with_reducible repeat (first | refine blk_drewN ?_ _ | refine blk_drew ?_ | refine blk_alloc ?_ _)); exact (Q_BK290 h0_ h1_)) hb))
          clear BK277
          clear BK278
          clear HB
          have BK277 := n0_
          have BK278 := n1_
          have HB := n2_
          clear n0_ n1_ n2_
          (try clear hb)
          (try clear hb2)
          (try clear hk)
          (try clear hi)
          refine hK.out _ _ ⟨gb290, m8_, (by rw [ha.out]; exact putSel_upk 4 hb_ rfl rfl rfl), (by (with_reducible repeat (first | refine blk_drewN ?_ _ | refine blk_drew ?_ | refine blk_alloc ?_ _)); exact BK277.out), (by (with_reducible repeat (first | refine blk_drewN ?_ _ | refine blk_drew ?_ | refine blk_alloc ?_ _)); exact BK278.out), (by repeat (first | (with_reducible first | exact HB.out | apply below_alloc | apply pw_below_drewN | apply below_drew1 | refine below_set ?_ GE277.out | refine below_set ?_ GE278.out) | exact HB.out)), z_BK290, Q_GW290, Q_GE290, Q_NB277_290, Q_NB290_277, Q_NB278_290, Q_NB290_278, fun h0_ => absurd ((hoff 9 (by kernel_rfl)).symm.trans h0_) (by decide), Q_X8_⟩
        refine steps_cons ?_ ?_
        · rintro b a w' ⟨gb290, m8_, ha, Q_BK277, Q_BK278, Q_HB, Q_BK290, Q_GW290, Q_GE290, Q_NB277_290, Q_NB290_277, Q_NB278_290, Q_NB290_278, Q_BK290_e9, Q_X8_⟩ hb_ hon hoff
          refine ⟨_, rfl, fun K hK => ?_⟩
          have e25 : a.tmps[25]? = some (.tuple #[.agg #[.string t286, .string t287, .int .i64 t288], .int .i64 t289]) := by rw [ha]; exact putSel_on (e := (4, 25, .tuple #[.agg #[.string t286, .string t287, .int .i64 t288], .int .i64 t289])) 4 rfl rfl (hon 4 (by kernel_rfl)) rfl
          replace ha := Aside0.mk ha
          have BK277 := Aside0.mk Q_BK277
          have BK278 := Aside0.mk Q_BK278
          have HB := Aside0.mk Q_HB
          refine value_ (w1 := w') (v := .tuple #[.agg #[.string t286, .string t287, .int .i64 t288], .int .i64 t289]) (by rfl) rfl ?_ ?_
          · go_simp
            (try simp only [i64_w])
            try rfl
          refine hK.out _ _ ⟨gb290, m8_, (by rw [ha.out]; exact putSel_upk 5 hb_ rfl rfl rfl), Q_BK277, Q_BK278, Q_HB, Q_BK290, Q_GW290, Q_GE290, Q_NB277_290, Q_NB290_277, Q_NB278_290, Q_NB290_278, fun h0_ => absurd ((hoff 9 (by kernel_rfl)).symm.trans h0_) (by decide), Q_X8_⟩
        refine steps_cons ?_ ?_
        · rintro b a w' ⟨gb290, m8_, ha, Q_BK277, Q_BK278, Q_HB, Q_BK290, Q_GW290, Q_GE290, Q_NB277_290, Q_NB290_277, Q_NB278_290, Q_NB290_278, Q_BK290_e9, Q_X8_⟩ hb_ hon hoff
          refine ⟨_, rfl, fun K hK => ?_⟩
          have e20 : a.tmps[20]? = some (.tuple #[.agg #[.string t286, .string t287, .int .i64 t288], .int .i64 t289]) := by rw [ha]; exact putSel_on (e := (5, 20, .tuple #[.agg #[.string t286, .string t287, .int .i64 t288], .int .i64 t289])) 5 rfl rfl (hon 5 (by kernel_rfl)) rfl
          replace ha := Aside0.mk ha
          have BK277 := Aside0.mk Q_BK277
          have BK278 := Aside0.mk Q_BK278
          have HB := Aside0.mk Q_HB
          refine value_ (w1 := w') (v := .agg #[.string t286, .string t287, .int .i64 t288]) (by rfl) rfl ?_ ?_
          · go_simp
            (try simp only [i64_w])
            try rfl
          refine hK.out _ _ ⟨gb290, m8_, (by rw [ha.out]; exact putSel_upk 6 hb_ rfl rfl rfl), Q_BK277, Q_BK278, Q_HB, Q_BK290, Q_GW290, Q_GE290, Q_NB277_290, Q_NB290_277, Q_NB278_290, Q_NB290_278, fun h0_ => absurd ((hoff 9 (by kernel_rfl)).symm.trans h0_) (by decide), Q_X8_⟩
        refine steps_cons ?_ ?_
        · rintro b a w' ⟨gb290, m8_, ha, Q_BK277, Q_BK278, Q_HB, Q_BK290, Q_GW290, Q_GE290, Q_NB277_290, Q_NB290_277, Q_NB278_290, Q_NB290_278, Q_BK290_e9, Q_X8_⟩ hb_ hon hoff
          refine ⟨_, rfl, fun K hK => ?_⟩
          have e20 : a.tmps[20]? = some (.tuple #[.agg #[.string t286, .string t287, .int .i64 t288], .int .i64 t289]) := by rw [ha]; exact putSel_on (e := (5, 20, .tuple #[.agg #[.string t286, .string t287, .int .i64 t288], .int .i64 t289])) 5 rfl rfl (hon 5 (by kernel_rfl)) rfl
          replace ha := Aside0.mk ha
          have BK277 := Aside0.mk Q_BK277
          have BK278 := Aside0.mk Q_BK278
          have HB := Aside0.mk Q_HB
          refine value_ (w1 := w') (v := .int .i64 t289) (by rfl) rfl ?_ ?_
          · go_simp
            (try simp only [i64_w])
            try rfl
          refine hK.out _ _ ⟨gb290, m8_, (by rw [ha.out]; exact putSel_upk 7 hb_ rfl rfl rfl), Q_BK277, Q_BK278, Q_HB, Q_BK290, Q_GW290, Q_GE290, Q_NB277_290, Q_NB290_277, Q_NB278_290, Q_NB290_278, Q_BK290_e9, Q_X8_⟩
        refine steps_cons ?_ ?_
        · rintro b a w' ⟨gb290, m8_, ha, Q_BK277, Q_BK278, Q_HB, Q_BK290, Q_GW290, Q_GE290, Q_NB277_290, Q_NB290_277, Q_NB278_290, Q_NB290_278, Q_BK290_e9, Q_X8_⟩ hb_ hon hoff
          refine ⟨_, rfl, fun K hK => ?_⟩
          replace ha := Aside0.mk ha
          have BK277 := Aside0.mk Q_BK277
          have BK278 := Aside0.mk Q_BK278
          have HB := Aside0.mk Q_HB
          refine box_step ?hg (N := 6) ?hd (cs := #[.string (⟨#[]⟩ : ByteArray), .string (⟨#[]⟩ : ByteArray), .int .i64 0]) (t := 26) ?hr ?_; (case hd => rfl); (case hg => rfl); (case hr => first | (go_simp; done) | (go_simp; rfl))
          intro gb290 hg w34 hbox hb
          have n0_ := Aside0.mk (blk_below (g := gb277) (o := .cells #[.string a0_0, .string a0_1, .int .i64 a0_2] 23 (0, 0)) (by (with_reducible repeat (first | refine blk_drewN ?_ _ | refine blk_drew ?_ | refine blk_alloc ?_ _)); exact BK277.out) hb)
          have n1_ := Aside0.mk (blk_below (g := gb278) (o := .cells #[.string a1_0, .string a1_1] 36 (0, 0)) (by (with_reducible repeat (first | refine blk_drewN ?_ _ | refine blk_drew ?_ | refine blk_alloc ?_ _)); exact BK278.out) hb)
          have n2_ := Aside0.mk (below_step (by repeat (first | (with_reducible first | exact HB.out | apply below_alloc | apply pw_below_drewN | apply below_drew1 | refine below_set ?_ GE277.out | refine below_set ?_ GE278.out) | exact HB.out)) hb)
          have n3_ := Aside0.mk (hbox)
          have n4_ := Aside0.mk ((by rw [hg]; exact (below_size (by repeat (first | (with_reducible first | exact HB.out | apply below_alloc | apply pw_below_drewN | apply below_drew1 | refine below_set ?_ GE277.out | refine below_set ?_ GE278.out) | exact HB.out))) : w.heap.size ≤ gb290))
          have n5_ := Aside0.mk ((by rw [hg]; exact (below_size (by repeat (first | (with_reducible first | exact HB.out | apply below_alloc | apply pw_below_drewN | apply below_drew1 | refine below_set ?_ GE277.out | refine below_set ?_ GE278.out) | exact HB.out))) : w.heap.size ≤ gb290))
          have n6_ := Aside0.mk ((by rw [hg]; exact Nat.ne_of_lt (blk_lt (g := gb277) (o := .cells #[.string a0_0, .string a0_1, .int .i64 a0_2] 23 (0, 0)) (by (with_reducible repeat (first | refine blk_drewN ?_ _ | refine blk_drew ?_ | refine blk_alloc ?_ _)); exact BK277.out)) : gb277 ≠ gb290))
          have n7_ := Aside0.mk ((by rw [hg]; exact Nat.ne_of_gt (blk_lt (g := gb277) (o := .cells #[.string a0_0, .string a0_1, .int .i64 a0_2] 23 (0, 0)) (by (with_reducible repeat (first | refine blk_drewN ?_ _ | refine blk_drew ?_ | refine blk_alloc ?_ _)); exact BK277.out)) : gb290 ≠ gb277))
          have n8_ := Aside0.mk ((by rw [hg]; exact Nat.ne_of_lt (blk_lt (g := gb278) (o := .cells #[.string a1_0, .string a1_1] 36 (0, 0)) (by (with_reducible repeat (first | refine blk_drewN ?_ _ | refine blk_drew ?_ | refine blk_alloc ?_ _)); exact BK278.out)) : gb278 ≠ gb290))
          have n9_ := Aside0.mk ((by rw [hg]; exact Nat.ne_of_gt (blk_lt (g := gb278) (o := .cells #[.string a1_0, .string a1_1] 36 (0, 0)) (by (with_reducible repeat (first | refine blk_drewN ?_ _ | refine blk_drew ?_ | refine blk_alloc ?_ _)); exact BK278.out)) : gb290 ≠ gb278))
          clear BK277
          clear BK278
          clear HB
          have BK277 := n0_
          have BK278 := n1_
          have HB := n2_
          have BK290 := n3_
          have GW290 := n4_
          have GE290 := n5_
          have NB277_290 := n6_
          have NB290_277 := n7_
          have NB278_290 := n8_
          have NB290_278 := n9_
          clear n0_ n1_ n2_ n3_ n4_ n5_ n6_ n7_ n8_ n9_
          clear hb hbox hg
          refine hK.out _ _ ⟨gb290, (.pointer (some ⟨gb290, 0, none⟩)), (by rw [ha.out]; exact putSel_upk 8 hb_ rfl rfl rfl), (by (with_reducible repeat (first | refine blk_drewN ?_ _ | refine blk_drew ?_ | refine blk_alloc ?_ _)); exact BK277.out), (by (with_reducible repeat (first | refine blk_drewN ?_ _ | refine blk_drew ?_ | refine blk_alloc ?_ _)); exact BK278.out), (by repeat (first | (with_reducible first | exact HB.out | apply below_alloc | apply pw_below_drewN | apply below_drew1 | refine below_set ?_ GE277.out | refine below_set ?_ GE278.out | refine below_set ?_ GE290.out) | exact HB.out)), fun _ _ => (by (with_reducible repeat (first | refine blk_drewN ?_ _ | refine blk_drew ?_ | refine blk_alloc ?_ _)); exact BK290.out), fun _ => GW290.out, fun _ => GE290.out, fun _ => NB277_290.out, fun _ => NB290_277.out, fun _ => NB278_290.out, fun _ => NB290_278.out, fun h0_ => absurd ((hoff 9 (by kernel_rfl)).symm.trans h0_) (by decide), fun _ => rfl⟩
        refine steps_cons ?_ ?_
        · rintro b a w' ⟨gb290, m8_, ha, Q_BK277, Q_BK278, Q_HB, Q_BK290, Q_GW290, Q_GE290, Q_NB277_290, Q_NB290_277, Q_NB278_290, Q_NB290_278, Q_BK290_e9, Q_X8_⟩ hb_ hon hoff
          refine ⟨_, rfl, fun K hK => ?_⟩
          have e6 : a.tmps[6]? = some (m8_) := by rw [ha]; exact putSel_on (e := (8, 6, m8_)) 8 rfl rfl (hon 8 (by kernel_rfl)) rfl
          rw [Q_X8_ (hon 8 (by kernel_rfl))] at e6
          have e26 : a.tmps[26]? = some (.agg #[.string t286, .string t287, .int .i64 t288]) := by rw [ha]; exact putSel_on (e := (6, 26, .agg #[.string t286, .string t287, .int .i64 t288])) 6 rfl rfl (hon 6 (by kernel_rfl)) rfl
          replace ha := Aside0.mk ha
          have BK277 := Aside0.mk Q_BK277
          have BK278 := Aside0.mk Q_BK278
          have HB := Aside0.mk Q_HB
          have BK290 := Aside0.mk (Q_BK290 (hon 8 (by kernel_rfl)) hb_)
          have GW290 := Aside0.mk (Q_GW290 (hon 8 (by kernel_rfl)))
          have GE290 := Aside0.mk (Q_GE290 (hon 8 (by kernel_rfl)))
          have NB277_290 := Aside0.mk (Q_NB277_290 (hon 8 (by kernel_rfl)))
          have NB290_277 := Aside0.mk (Q_NB290_277 (hon 8 (by kernel_rfl)))
          have NB278_290 := Aside0.mk (Q_NB278_290 (hon 8 (by kernel_rfl)))
          have NB290_278 := Aside0.mk (Q_NB290_278 (hon 8 (by kernel_rfl)))
          have hs39 : w'.cell? ⟨gb290, 0, none⟩ = some (.string (⟨#[]⟩ : ByteArray)) := (blk_cell BK290.out 0).trans rfl
          have hfs39 := blk_frozen BK290.out 0
          have hns39_0 := NB277_290.out
          have hns39_1 := NB278_290.out
          have hms39_0 := NB290_277.out
          have hms39_1 := NB290_278.out
          have hs40 : w'.cell? ⟨gb290, 1, none⟩ = some (.string (⟨#[]⟩ : ByteArray)) := (blk_cell BK290.out 1).trans rfl
          have hfs40 := blk_frozen BK290.out 1
          have hns40_0 := NB277_290.out
          have hns40_1 := NB278_290.out
          have hms40_0 := NB290_277.out
          have hms40_1 := NB290_278.out
          have hs41 : w'.cell? ⟨gb290, 2, none⟩ = some (.int .i64 0) := (blk_cell BK290.out 2).trans rfl
          have hfs41 := blk_frozen BK290.out 2
          have hns41_0 := NB277_290.out
          have hns41_1 := NB278_290.out
          have hms41_0 := NB290_277.out
          have hms41_1 := NB290_278.out
          refine skip_ (w1 := ?_) (by rfl) rfl ?_ ?_
          rotate_left
          · go_simp
            rfl
          refine hK.out _ _ ⟨gb290, m8_, (by rw [ha.out]; exact putSel_none (v := undef) rfl), (by (with_reducible repeat (first | refine blk_drewN ?_ _ | refine blk_drew ?_ | refine blk_alloc ?_ _)); refine blk_far ?_ NB277_290.out _; (with_reducible repeat (first | refine blk_drewN ?_ _ | refine blk_drew ?_ | refine blk_alloc ?_ _)); refine blk_far ?_ NB277_290.out _; (with_reducible repeat (first | refine blk_drewN ?_ _ | refine blk_drew ?_ | refine blk_alloc ?_ _)); refine blk_far ?_ NB277_290.out _; (with_reducible repeat (first | refine blk_drewN ?_ _ | refine blk_drew ?_ | refine blk_alloc ?_ _)); exact BK277.out), (by (with_reducible repeat (first | refine blk_drewN ?_ _ | refine blk_drew ?_ | refine blk_alloc ?_ _)); refine blk_far ?_ NB278_290.out _; (with_reducible repeat (first | refine blk_drewN ?_ _ | refine blk_drew ?_ | refine blk_alloc ?_ _)); refine blk_far ?_ NB278_290.out _; (with_reducible repeat (first | refine blk_drewN ?_ _ | refine blk_drew ?_ | refine blk_alloc ?_ _)); refine blk_far ?_ NB278_290.out _; (with_reducible repeat (first | refine blk_drewN ?_ _ | refine blk_drew ?_ | refine blk_alloc ?_ _)); exact BK278.out), (by repeat (first | (with_reducible first | exact HB.out | apply below_alloc | apply pw_below_drewN | apply below_drew1 | refine below_set ?_ GE277.out | refine below_set ?_ GE278.out | refine below_set ?_ GE290.out) | exact HB.out)), fun _ h1_ => absurd ((up_self b 9).symm.trans h1_) (by decide), fun _ => GW290.out, fun _ => GE290.out, fun _ => NB277_290.out, fun _ => NB290_277.out, fun _ => NB278_290.out, fun _ => NB290_278.out, fun _ => (by (with_reducible repeat (first | refine blk_drewN ?_ _ | refine blk_drew ?_ | refine blk_alloc ?_ _)); refine blk_put (cs := #[.string t286, .string t287, .int .i64 0]) ?_ 2 _ rfl; (with_reducible repeat (first | refine blk_drewN ?_ _ | refine blk_drew ?_ | refine blk_alloc ?_ _)); refine blk_put (cs := #[.string t286, .string (⟨#[]⟩ : ByteArray), .int .i64 0]) ?_ 1 _ rfl; (with_reducible repeat (first | refine blk_drewN ?_ _ | refine blk_drew ?_ | refine blk_alloc ?_ _)); refine blk_put (cs := #[.string (⟨#[]⟩ : ByteArray), .string (⟨#[]⟩ : ByteArray), .int .i64 0]) ?_ 0 _ rfl; (with_reducible repeat (first | refine blk_drewN ?_ _ | refine blk_drew ?_ | refine blk_alloc ?_ _)); exact BK290.out), Q_X8_⟩
        refine steps_cons ?_ ?_
        · rintro b a w' ⟨gb290, m8_, ha, Q_BK277, Q_BK278, Q_HB, Q_BK290, Q_GW290, Q_GE290, Q_NB277_290, Q_NB290_277, Q_NB278_290, Q_NB290_278, Q_BK290_e9, Q_X8_⟩ hb_ hon hoff
          refine ⟨_, rfl, fun K hK => ?_⟩
          have e27 : a.tmps[27]? = some (.int .i64 t289) := by rw [ha]; exact putSel_on (e := (7, 27, .int .i64 t289)) 7 rfl rfl (hon 7 (by kernel_rfl)) rfl
          replace ha := Aside0.mk ha
          have BK277 := Aside0.mk Q_BK277
          have BK278 := Aside0.mk Q_BK278
          have HB := Aside0.mk Q_HB
          have GW290 := Aside0.mk (Q_GW290 (hon 8 (by kernel_rfl)))
          have GE290 := Aside0.mk (Q_GE290 (hon 8 (by kernel_rfl)))
          have NB277_290 := Aside0.mk (Q_NB277_290 (hon 8 (by kernel_rfl)))
          have NB290_277 := Aside0.mk (Q_NB290_277 (hon 8 (by kernel_rfl)))
          have NB278_290 := Aside0.mk (Q_NB278_290 (hon 8 (by kernel_rfl)))
          have NB290_278 := Aside0.mk (Q_NB290_278 (hon 8 (by kernel_rfl)))
          have BK290 := Aside0.mk (Q_BK290_e9 (hon 9 (by kernel_rfl)))
          refine value_ (w1 := w') (v := .int .i64 t289) (by rfl) rfl ?_ ?_
          · go_simp
            (try simp only [i64_w])
            try rfl
          refine hK.out _ _ ⟨gb290, m8_, (by rw [ha.out]; exact putSel_upk 9 hb_ rfl rfl rfl), Q_BK277, Q_BK278, Q_HB, fun _ h1_ => absurd ((hon 9 (by kernel_rfl)).symm.trans h1_) (by decide), Q_GW290, Q_GE290, Q_NB277_290, Q_NB290_277, Q_NB278_290, Q_NB290_278, Q_BK290_e9, Q_X8_⟩
        exact steps_nil
      rintro b a w41 hall ⟨gb290, m8_, ha, Q_BK277, Q_BK278, Q_HB, Q_BK290, Q_GW290, Q_GE290, Q_NB277_290, Q_NB290_277, Q_NB278_290, Q_NB290_278, Q_BK290_e9, Q_X8_⟩
      clear BK277 BK278 HB
      have hb0_ := hall 0 (by kernel_rfl)
      have hb1_ := hall 1 (by kernel_rfl)
      have hb2_ := hall 2 (by kernel_rfl)
      have hb3_ := hall 3 (by kernel_rfl)
      have hb4_ := hall 4 (by kernel_rfl)
      have hb5_ := hall 5 (by kernel_rfl)
      have hb6_ := hall 6 (by kernel_rfl)
      have hb7_ := hall 7 (by kernel_rfl)
      have hb8_ := hall 8 (by kernel_rfl)
      have hb9_ := hall 9 (by kernel_rfl)
      have hb10_ := hall 10 (by kernel_rfl)
      subst ha
      obtain rfl := Q_X8_ hb8_
      simp only [putSel, hb0_, hb1_, hb2_, hb3_, hb4_, hb5_, hb6_, hb7_, hb8_, hb9_, hb10_, if_true, Act.put, List.setIfInBounds_toArray, List.set_cons_zero, List.set_cons_succ]
      have BK277 := Aside0.mk Q_BK277
      clear Q_BK277
      have BK278 := Aside0.mk Q_BK278
      clear Q_BK278
      have HB := Aside0.mk Q_HB
      clear Q_HB
      clear Q_BK290
      have GW290 := Aside0.mk (Q_GW290 hb8_)
      clear Q_GW290
      have GE290 := Aside0.mk (Q_GE290 hb8_)
      clear Q_GE290
      have NB277_290 := Aside0.mk (Q_NB277_290 hb8_)
      clear Q_NB277_290
      have NB290_277 := Aside0.mk (Q_NB290_277 hb8_)
      clear Q_NB290_277
      have NB278_290 := Aside0.mk (Q_NB278_290 hb8_)
      clear Q_NB278_290
      have NB290_278 := Aside0.mk (Q_NB290_278 hb8_)
      clear Q_NB290_278
      have BK290 := Aside0.mk (Q_BK290_e9 hb9_)
      clear Q_BK290_e9
      clear hall hb0_ hb1_ hb2_ hb3_ hb4_ hb5_ hb6_ hb7_ hb8_ hb9_ hb10_
      try go_wp2
      have n0_ := Aside0.mk (blk_drew BK277.out)
      have n1_ := Aside0.mk (blk_drew BK278.out)
      have n2_ := Aside0.mk (blk_drew BK290.out)
      have n3_ := Aside0.mk (below_drew1 HB.out)
      clear BK277
      clear BK278
      clear BK290
      clear HB
      have BK277 := n0_
      have BK278 := n1_
      have BK290 := n2_
      have HB := n3_
      clear n0_ n1_ n2_ n3_
      refine start_ (n := 11) (S := fun w' => True) (ds := []) #[false, false, false, false, false, false, false, false, false, false, false] (by kernel_rfl) rfl rfl trivial (fun hHeld => ?_); refine with_tabW laws_FnExactAppendRecord.tab9 laws_FnExactAppendRecord.bits9 (fun HT_ HW_ => ?_)
      generalize w41.drew = w42 at BK277 BK278 BK290 HB hHeld ⊢
      refine inv_at [0, 1, 2, 3, 4, 5, 6, 7, 8, 9, 10] (fun a0_ b a w' => ∃ (gb300 : Nat) (m8_ : Value), a = putSel a0_ b [(0, 29, .agg #[.string a0_0, .string a0_1, .int .i64 a0_2]), (1, 30, .agg #[.string t291, .string t292, .int .i64 t293]), (2, 31, .agg #[.string a1_0, .string a1_1]), (3, 32, .agg #[.string t294, .string t295]), (4, 33, .tuple #[.agg #[.string t296, .string t297, .int .i64 t298], .int .i64 t299]), (5, 28, .tuple #[.agg #[.string t296, .string t297, .int .i64 t298], .int .i64 t299]), (6, 34, .agg #[.string t296, .string t297, .int .i64 t298]), (7, 35, .int .i64 t299), (8, 8, m8_), (10, 9, .int .i64 t299)] ∧ (w'.heap[gb277]? = some (.cells #[.string a0_0, .string a0_1, .int .i64 a0_2] 23 (0, 0))) ∧ (w'.heap[gb278]? = some (.cells #[.string a1_0, .string a1_1] 36 (0, 0))) ∧ (w'.heap[gb290]? = some (.cells #[.string t286, .string t287, .int .i64 t288] 26 (0, 0))) ∧ (Below w.heap.size w w') ∧ (b 8 = true → b 9 = false → w'.heap[gb300]? = some (.cells #[.string (⟨#[]⟩ : ByteArray), .string (⟨#[]⟩ : ByteArray), .int .i64 0] 26 (0, 0))) ∧ (b 8 = true → w.heap.size ≤ gb300) ∧ (b 8 = true → w.heap.size ≤ gb300) ∧ (b 8 = true → gb277 ≠ gb300) ∧ (b 8 = true → gb300 ≠ gb277) ∧ (b 8 = true → gb278 ≠ gb300) ∧ (b 8 = true → gb300 ≠ gb278) ∧ (b 8 = true → gb290 ≠ gb300) ∧ (b 8 = true → gb300 ≠ gb290) ∧ (b 9 = true → w'.heap[gb300]? = some (.cells #[.string t296, .string t297, .int .i64 t298] 26 (0, 0))) ∧ (b 8 = true → (m8_ : Value) = .pointer (some ⟨gb300, 0, none⟩))) HT_.out HW_.out (by kernel_rfl) (by kernel_rfl) ?_ ?_ ?_
      · exact ⟨0, .bool false, by simp only [putSel, Bool.false_eq_true, if_false], BK277.out, BK278.out, BK290.out, HB.out, fun h_ => absurd h_ (by decide), fun h_ => absurd h_ (by decide), fun h_ => absurd h_ (by decide), fun h_ => absurd h_ (by decide), fun h_ => absurd h_ (by decide), fun h_ => absurd h_ (by decide), fun h_ => absurd h_ (by decide), fun h_ => absurd h_ (by decide), fun h_ => absurd h_ (by decide), fun h_ => absurd h_ (by decide), fun h_ => absurd h_ (by decide)⟩
      · skip
        clear BK277 BK278 BK290 HB
        refine steps_cons ?_ ?_
        · rintro b a w' ⟨gb300, m8_, ha, Q_BK277, Q_BK278, Q_BK290, Q_HB, Q_BK300, Q_GW300, Q_GE300, Q_NB277_300, Q_NB300_277, Q_NB278_300, Q_NB300_278, Q_NB290_300, Q_NB300_290, Q_BK300_e9, Q_X8_⟩ hb_ hon hoff
          refine ⟨_, rfl, fun K hK => ?_⟩
          have e2 : a.tmps[2]? = some (.pointer (some ⟨gb277, 0, none⟩)) := by rw [ha]; exact (putSel_off rfl).trans rfl
          replace ha := Aside0.mk ha
          have BK277 := Aside0.mk Q_BK277
          have BK278 := Aside0.mk Q_BK278
          have BK290 := Aside0.mk Q_BK290
          have HB := Aside0.mk Q_HB
          have hc0_ : w'.cell? ⟨gb277, 0, none⟩ = some (.string a0_0) := (blk_cell BK277.out 0).trans rfl
          have hc1_ : w'.cell? ⟨gb277, 1, none⟩ = some (.string a0_1) := (blk_cell BK277.out 1).trans rfl
          have hc2_ : w'.cell? ⟨gb277, 2, none⟩ = some (.int .i64 a0_2) := (blk_cell BK277.out 2).trans rfl
          refine value_ (w1 := w') (v := .agg #[.string a0_0, .string a0_1, .int .i64 a0_2]) (by rfl) rfl ?_ ?_
          · go_simp
            (try simp only [i64_w])
            try rfl
          refine hK.out _ _ ⟨gb300, m8_, (by rw [ha.out]; exact putSel_upk 0 hb_ rfl rfl rfl), Q_BK277, Q_BK278, Q_BK290, Q_HB, Q_BK300, Q_GW300, Q_GE300, Q_NB277_300, Q_NB300_277, Q_NB278_300, Q_NB300_278, Q_NB290_300, Q_NB300_290, fun h0_ => absurd ((hoff 9 (by kernel_rfl)).symm.trans h0_) (by decide), Q_X8_⟩
        refine steps_cons ?_ ?_
        · rintro b a w' ⟨gb300, m8_, ha, Q_BK277, Q_BK278, Q_BK290, Q_HB, Q_BK300, Q_GW300, Q_GE300, Q_NB277_300, Q_NB300_277, Q_NB278_300, Q_NB300_278, Q_NB290_300, Q_NB300_290, Q_BK300_e9, Q_X8_⟩ hb_ hon hoff
          refine ⟨_, rfl, fun K hK => ?_⟩
          have e29 : a.tmps[29]? = some (.agg #[.string a0_0, .string a0_1, .int .i64 a0_2]) := by rw [ha]; exact putSel_on (e := (0, 29, .agg #[.string a0_0, .string a0_1, .int .i64 a0_2])) 0 rfl rfl (hon 0 (by kernel_rfl)) rfl
          replace ha := Aside0.mk ha
          have BK277 := Aside0.mk Q_BK277
          have BK278 := Aside0.mk Q_BK278
          have BK290 := Aside0.mk Q_BK290
          have HB := Aside0.mk Q_HB
          refine goes_ Tryd.func13 (by kernel_rfl) rfl #[.agg #[.string a0_0, .string a0_1, .int .i64 a0_2]] (by rfl) rfl rfl (by first | (simp only [List.map_toArray, List.map_cons, List.map_nil, Act.eval, Array.getD_eq_getD_getElem?, Option.getD_some, e29]; done) | (simp only [List.map_toArray, List.map_cons, List.map_nil, Act.eval, Array.getD_eq_getD_getElem?, Option.getD_some, e29]; rfl)) ?_
          with_reducible refine (laws_toLog.calls a0_0 a0_1 a0_2 t291 t292 t293 _ A22.out).mono ?_
          rintro e w43 ⟨rfl, hb⟩
          refine ⟨_, rfl, ?_⟩
          have n0_ := Aside0.mk (blk_below (g := gb277) (o := .cells #[.string a0_0, .string a0_1, .int .i64 a0_2] 23 (0, 0)) (by (with_reducible repeat (first | refine blk_drewN ?_ _ | refine blk_drew ?_ | refine blk_alloc ?_ _)); exact BK277.out) hb)
          have n1_ := Aside0.mk (blk_below (g := gb278) (o := .cells #[.string a1_0, .string a1_1] 36 (0, 0)) (by (with_reducible repeat (first | refine blk_drewN ?_ _ | refine blk_drew ?_ | refine blk_alloc ?_ _)); exact BK278.out) hb)
          have n2_ := Aside0.mk (blk_below (g := gb290) (o := .cells #[.string t286, .string t287, .int .i64 t288] 26 (0, 0)) (by (with_reducible repeat (first | refine blk_drewN ?_ _ | refine blk_drew ?_ | refine blk_alloc ?_ _)); exact BK290.out) hb)
          have n3_ := Aside0.mk (below_step (by repeat (first | (with_reducible first | exact HB.out | apply below_alloc | apply pw_below_drewN | apply below_drew1 | refine below_set ?_ GE277.out | refine below_set ?_ GE278.out | refine below_set ?_ GE290.out) | exact HB.out)) hb)
          have z_BK300 := fun (h0_ : b 8 = true) (h1_ : b 9 = false) => (show w43.heap[gb300]? = some (.cells #[.string (⟨#[]⟩ : ByteArray), .string (⟨#[]⟩ : ByteArray), .int .i64 0] 26 (0, 0)) from by first | exact (blk_below (g := gb300) (o := .cells #[.string (⟨#[]⟩ : ByteArray), .string (⟨#[]⟩ : ByteArray), .int .i64 0] 26 (0, 0)) (by (with_reducible repeat (first | refine blk_drewN ?_ _ | refine blk_drew ?_ | refine blk_alloc ?_ _)); exact (Q_BK300 h0_ h1_)) hb))
          clear BK277
          clear BK278
          clear BK290
          clear HB
          have BK277 := n0_
          have BK278 := n1_
          have BK290 := n2_
          have HB := n3_
          clear n0_ n1_ n2_ n3_
          (try clear hb)
          (try clear hb2)
          (try clear hk)
          (try clear hi)
          refine hK.out _ _ ⟨gb300, m8_, (by rw [ha.out]; exact putSel_upk 1 hb_ rfl rfl rfl), (by (with_reducible repeat (first | refine blk_drewN ?_ _ | refine blk_drew ?_ | refine blk_alloc ?_ _)); exact BK277.out), (by (with_reducible repeat (first | refine blk_drewN ?_ _ | refine blk_drew ?_ | refine blk_alloc ?_ _)); exact BK278.out), (by (with_reducible repeat (first | refine blk_drewN ?_ _ | refine blk_drew ?_ | refine blk_alloc ?_ _)); exact BK290.out), (by repeat (first | (with_reducible first | exact HB.out | apply below_alloc | apply pw_below_drewN | apply below_drew1 | refine below_set ?_ GE277.out | refine below_set ?_ GE278.out | refine below_set ?_ GE290.out) | exact HB.out)), z_BK300, Q_GW300, Q_GE300, Q_NB277_300, Q_NB300_277, Q_NB278_300, Q_NB300_278, Q_NB290_300, Q_NB300_290, fun h0_ => absurd ((hoff 9 (by kernel_rfl)).symm.trans h0_) (by decide), Q_X8_⟩
        refine steps_cons ?_ ?_
        · rintro b a w' ⟨gb300, m8_, ha, Q_BK277, Q_BK278, Q_BK290, Q_HB, Q_BK300, Q_GW300, Q_GE300, Q_NB277_300, Q_NB300_277, Q_NB278_300, Q_NB300_278, Q_NB290_300, Q_NB300_290, Q_BK300_e9, Q_X8_⟩ hb_ hon hoff
          refine ⟨_, rfl, fun K hK => ?_⟩
          have e3 : a.tmps[3]? = some (.pointer (some ⟨gb278, 0, none⟩)) := by rw [ha]; exact (putSel_off rfl).trans rfl
          replace ha := Aside0.mk ha
          have BK277 := Aside0.mk Q_BK277
          have BK278 := Aside0.mk Q_BK278
          have BK290 := Aside0.mk Q_BK290
          have HB := Aside0.mk Q_HB
          have hc0_ : w'.cell? ⟨gb278, 0, none⟩ = some (.string a1_0) := (blk_cell BK278.out 0).trans rfl
          have hc1_ : w'.cell? ⟨gb278, 1, none⟩ = some (.string a1_1) := (blk_cell BK278.out 1).trans rfl
          refine value_ (w1 := w') (v := .agg #[.string a1_0, .string a1_1]) (by rfl) rfl ?_ ?_
          · go_simp
            (try simp only [i64_w])
            try rfl
          refine hK.out _ _ ⟨gb300, m8_, (by rw [ha.out]; exact putSel_upk 2 hb_ rfl rfl rfl), Q_BK277, Q_BK278, Q_BK290, Q_HB, Q_BK300, Q_GW300, Q_GE300, Q_NB277_300, Q_NB300_277, Q_NB278_300, Q_NB300_278, Q_NB290_300, Q_NB300_290, fun h0_ => absurd ((hoff 9 (by kernel_rfl)).symm.trans h0_) (by decide), Q_X8_⟩
        refine steps_cons ?_ ?_
        · rintro b a w' ⟨gb300, m8_, ha, Q_BK277, Q_BK278, Q_BK290, Q_HB, Q_BK300, Q_GW300, Q_GE300, Q_NB277_300, Q_NB300_277, Q_NB278_300, Q_NB300_278, Q_NB290_300, Q_NB300_290, Q_BK300_e9, Q_X8_⟩ hb_ hon hoff
          refine ⟨_, rfl, fun K hK => ?_⟩
          have e31 : a.tmps[31]? = some (.agg #[.string a1_0, .string a1_1]) := by rw [ha]; exact putSel_on (e := (2, 31, .agg #[.string a1_0, .string a1_1])) 2 rfl rfl (hon 2 (by kernel_rfl)) rfl
          replace ha := Aside0.mk ha
          have BK277 := Aside0.mk Q_BK277
          have BK278 := Aside0.mk Q_BK278
          have BK290 := Aside0.mk Q_BK290
          have HB := Aside0.mk Q_HB
          refine goes_ Tryd.func22 (by kernel_rfl) rfl #[.agg #[.string a1_0, .string a1_1]] (by rfl) rfl rfl (by first | (simp only [List.map_toArray, List.map_cons, List.map_nil, Act.eval, Array.getD_eq_getD_getElem?, Option.getD_some, e31]; done) | (simp only [List.map_toArray, List.map_cons, List.map_nil, Act.eval, Array.getD_eq_getD_getElem?, Option.getD_some, e31]; rfl)) ?_
          with_reducible refine (laws_toLogRecord.calls a1_0 a1_1 t294 t295 _ A23.out).mono ?_
          rintro e w45 ⟨rfl, hb⟩
          refine ⟨_, rfl, ?_⟩
          have n0_ := Aside0.mk (blk_below (g := gb277) (o := .cells #[.string a0_0, .string a0_1, .int .i64 a0_2] 23 (0, 0)) (by (with_reducible repeat (first | refine blk_drewN ?_ _ | refine blk_drew ?_ | refine blk_alloc ?_ _)); exact BK277.out) hb)
          have n1_ := Aside0.mk (blk_below (g := gb278) (o := .cells #[.string a1_0, .string a1_1] 36 (0, 0)) (by (with_reducible repeat (first | refine blk_drewN ?_ _ | refine blk_drew ?_ | refine blk_alloc ?_ _)); exact BK278.out) hb)
          have n2_ := Aside0.mk (blk_below (g := gb290) (o := .cells #[.string t286, .string t287, .int .i64 t288] 26 (0, 0)) (by (with_reducible repeat (first | refine blk_drewN ?_ _ | refine blk_drew ?_ | refine blk_alloc ?_ _)); exact BK290.out) hb)
          have n3_ := Aside0.mk (below_step (by repeat (first | (with_reducible first | exact HB.out | apply below_alloc | apply pw_below_drewN | apply below_drew1 | refine below_set ?_ GE277.out | refine below_set ?_ GE278.out | refine below_set ?_ GE290.out) | exact HB.out)) hb)
          have z_BK300 := fun (h0_ : b 8 = true) (h1_ : b 9 = false) => (show w45.heap[gb300]? = some (.cells #[.string (⟨#[]⟩ : ByteArray), .string (⟨#[]⟩ : ByteArray), .int .i64 0] 26 (0, 0)) from by first | exact (blk_below (g := gb300) (o := .cells #[.string (⟨#[]⟩ : ByteArray), .string (⟨#[]⟩ : ByteArray), .int .i64 0] 26 (0, 0)) (by (with_reducible repeat (first | refine blk_drewN ?_ _ | refine blk_drew ?_ | refine blk_alloc ?_ _)); exact (Q_BK300 h0_ h1_)) hb))
          clear BK277
          clear BK278
          clear BK290
          clear HB
          have BK277 := n0_
          have BK278 := n1_
          have BK290 := n2_
          have HB := n3_
          clear n0_ n1_ n2_ n3_
          (try clear hb)
          (try clear hb2)
          (try clear hk)
          (try clear hi)
          refine hK.out _ _ ⟨gb300, m8_, (by rw [ha.out]; exact putSel_upk 3 hb_ rfl rfl rfl), (by (with_reducible repeat (first | refine blk_drewN ?_ _ | refine blk_drew ?_ | refine blk_alloc ?_ _)); exact BK277.out), (by (with_reducible repeat (first | refine blk_drewN ?_ _ | refine blk_drew ?_ | refine blk_alloc ?_ _)); exact BK278.out), (by (with_reducible repeat (first | refine blk_drewN ?_ _ | refine blk_drew ?_ | refine blk_alloc ?_ _)); exact BK290.out), (by repeat (first | (with_reducible first | exact HB.out | apply below_alloc | apply pw_below_drewN | apply below_drew1 | refine below_set ?_ GE277.out | refine below_set ?_ GE278.out | refine below_set ?_ GE290.out) | exact HB.out)), z_BK300, Q_GW300, Q_GE300, Q_NB277_300, Q_NB300_277, Q_NB278_300, Q_NB300_278, Q_NB290_300, Q_NB300_290, fun h0_ => absurd ((hoff 9 (by kernel_rfl)).symm.trans h0_) (by decide), Q_X8_⟩
        refine steps_cons ?_ ?_
        · rintro b a w' ⟨gb300, m8_, ha, Q_BK277, Q_BK278, Q_BK290, Q_HB, Q_BK300, Q_GW300, Q_GE300, Q_NB277_300, Q_NB300_277, Q_NB278_300, Q_NB300_278, Q_NB290_300, Q_NB300_290, Q_BK300_e9, Q_X8_⟩ hb_ hon hoff
          refine ⟨_, rfl, fun K hK => ?_⟩
          have e30 : a.tmps[30]? = some (.agg #[.string t291, .string t292, .int .i64 t293]) := by rw [ha]; exact putSel_on (e := (1, 30, .agg #[.string t291, .string t292, .int .i64 t293])) 1 rfl rfl (hon 1 (by kernel_rfl)) rfl
          have e32 : a.tmps[32]? = some (.agg #[.string t294, .string t295]) := by rw [ha]; exact putSel_on (e := (3, 32, .agg #[.string t294, .string t295])) 3 rfl rfl (hon 3 (by kernel_rfl)) rfl
          replace ha := Aside0.mk ha
          have BK277 := Aside0.mk Q_BK277
          have BK278 := Aside0.mk Q_BK278
          have BK290 := Aside0.mk Q_BK290
          have HB := Aside0.mk Q_HB
          refine goes_ Tryd.func23 (by kernel_rfl) rfl #[.agg #[.string t291, .string t292, .int .i64 t293], .agg #[.string t294, .string t295]] (by rfl) rfl rfl (by first | (simp only [List.map_toArray, List.map_cons, List.map_nil, Act.eval, Array.getD_eq_getD_getElem?, Option.getD_some, e30, e32]; done) | (simp only [List.map_toArray, List.map_cons, List.map_nil, Act.eval, Array.getD_eq_getD_getElem?, Option.getD_some, e30, e32]; rfl)) ?_
          with_reducible refine (impl_AppendRecord.calls k t291 t292 t293 t294 t295 t296 t297 t298 t299 _ ?side1 A24.out).mono ?_
          (case side1 => exact Gl.below HG.out (by repeat (first | (with_reducible first | exact HB.out | apply below_alloc | apply pw_below_drewN | apply below_drew1 | refine below_set ?_ GE277.out | refine below_set ?_ GE278.out | refine below_set ?_ GE290.out) | exact HB.out)))
          rintro e w46 ⟨rfl, hb⟩
          refine ⟨_, rfl, ?_⟩
          have n0_ := Aside0.mk (blk_below (g := gb277) (o := .cells #[.string a0_0, .string a0_1, .int .i64 a0_2] 23 (0, 0)) (by (with_reducible repeat (first | refine blk_drewN ?_ _ | refine blk_drew ?_ | refine blk_alloc ?_ _)); exact BK277.out) hb)
          have n1_ := Aside0.mk (blk_below (g := gb278) (o := .cells #[.string a1_0, .string a1_1] 36 (0, 0)) (by (with_reducible repeat (first | refine blk_drewN ?_ _ | refine blk_drew ?_ | refine blk_alloc ?_ _)); exact BK278.out) hb)
          have n2_ := Aside0.mk (blk_below (g := gb290) (o := .cells #[.string t286, .string t287, .int .i64 t288] 26 (0, 0)) (by (with_reducible repeat (first | refine blk_drewN ?_ _ | refine blk_drew ?_ | refine blk_alloc ?_ _)); exact BK290.out) hb)
          have n3_ := Aside0.mk (below_step (by repeat (first | (with_reducible first | exact HB.out | apply below_alloc | apply pw_below_drewN | apply below_drew1 | refine below_set ?_ GE277.out | refine below_set ?_ GE278.out | refine below_set ?_ GE290.out) | exact HB.out)) hb)
          have z_BK300 := fun (h0_ : b 8 = true) (h1_ : b 9 = false) => (show w46.heap[gb300]? = some (.cells #[.string (⟨#[]⟩ : ByteArray), .string (⟨#[]⟩ : ByteArray), .int .i64 0] 26 (0, 0)) from by first | exact (blk_below (g := gb300) (o := .cells #[.string (⟨#[]⟩ : ByteArray), .string (⟨#[]⟩ : ByteArray), .int .i64 0] 26 (0, 0)) (by (with_reducible repeat (first | refine blk_drewN ?_ _ | refine blk_drew ?_ | refine blk_alloc ?_ _)); exact (Q_BK300 h0_ h1_)) hb))
          clear BK277
          clear BK278
          clear BK290
          clear HB
          have BK277 := n0_
          have BK278 := n1_
          have BK290 := n2_
          have HB := n3_
          clear n0_ n1_ n2_ n3_
          (try clear hb)
          (try clear hb2)
          (try clear hk)
          (try clear hi)
          refine hK.out _ _ ⟨gb300, m8_, (by rw [ha.out]; exact putSel_upk 4 hb_ rfl rfl rfl), (by (with_reducible repeat (first | refine blk_drewN ?_ _ | refine blk_drew ?_ | refine blk_alloc ?_ _)); exact BK277.out), (by (with_reducible repeat (first | refine blk_drewN ?_ _ | refine blk_drew ?_ | refine blk_alloc ?_ _)); exact BK278.out), (by (with_reducible repeat (first | refine blk_drewN ?_ _ | refine blk_drew ?_ | refine blk_alloc ?_ _)); exact BK290.out), (by repeat (first | (with_reducible first | exact HB.out | apply below_alloc | apply pw_below_drewN | apply below_drew1 | refine below_set ?_ GE277.out | refine below_set ?_ GE278.out | refine below_set ?_ GE290.out) | exact HB.out)), z_BK300, Q_GW300, Q_GE300, Q_NB277_300, Q_NB300_277, Q_NB278_300, Q_NB300_278, Q_NB290_300, Q_NB300_290, fun h0_ => absurd ((hoff 9 (by kernel_rfl)).symm.trans h0_) (by decide), Q_X8_⟩
        refine steps_cons ?_ ?_
        · rintro b a w' ⟨gb300, m8_, ha, Q_BK277, Q_BK278, Q_BK290, Q_HB, Q_BK300, Q_GW300, Q_GE300, Q_NB277_300, Q_NB300_277, Q_NB278_300, Q_NB300_278, Q_NB290_300, Q_NB300_290, Q_BK300_e9, Q_X8_⟩ hb_ hon hoff
          refine ⟨_, rfl, fun K hK => ?_⟩
          have e33 : a.tmps[33]? = some (.tuple #[.agg #[.string t296, .string t297, .int .i64 t298], .int .i64 t299]) := by rw [ha]; exact putSel_on (e := (4, 33, .tuple #[.agg #[.string t296, .string t297, .int .i64 t298], .int .i64 t299])) 4 rfl rfl (hon 4 (by kernel_rfl)) rfl
          replace ha := Aside0.mk ha
          have BK277 := Aside0.mk Q_BK277
          have BK278 := Aside0.mk Q_BK278
          have BK290 := Aside0.mk Q_BK290
          have HB := Aside0.mk Q_HB
          refine value_ (w1 := w') (v := .tuple #[.agg #[.string t296, .string t297, .int .i64 t298], .int .i64 t299]) (by rfl) rfl ?_ ?_
          · go_simp
            (try simp only [i64_w])
            try rfl
          refine hK.out _ _ ⟨gb300, m8_, (by rw [ha.out]; exact putSel_upk 5 hb_ rfl rfl rfl), Q_BK277, Q_BK278, Q_BK290, Q_HB, Q_BK300, Q_GW300, Q_GE300, Q_NB277_300, Q_NB300_277, Q_NB278_300, Q_NB300_278, Q_NB290_300, Q_NB300_290, fun h0_ => absurd ((hoff 9 (by kernel_rfl)).symm.trans h0_) (by decide), Q_X8_⟩
        refine steps_cons ?_ ?_
        · rintro b a w' ⟨gb300, m8_, ha, Q_BK277, Q_BK278, Q_BK290, Q_HB, Q_BK300, Q_GW300, Q_GE300, Q_NB277_300, Q_NB300_277, Q_NB278_300, Q_NB300_278, Q_NB290_300, Q_NB300_290, Q_BK300_e9, Q_X8_⟩ hb_ hon hoff
          refine ⟨_, rfl, fun K hK => ?_⟩
          have e28 : a.tmps[28]? = some (.tuple #[.agg #[.string t296, .string t297, .int .i64 t298], .int .i64 t299]) := by rw [ha]; exact putSel_on (e := (5, 28, .tuple #[.agg #[.string t296, .string t297, .int .i64 t298], .int .i64 t299])) 5 rfl rfl (hon 5 (by kernel_rfl)) rfl
          replace ha := Aside0.mk ha
          have BK277 := Aside0.mk Q_BK277
          have BK278 := Aside0.mk Q_BK278
          have BK290 := Aside0.mk Q_BK290
          have HB := Aside0.mk Q_HB
          refine value_ (w1 := w') (v := .agg #[.string t296, .string t297, .int .i64 t298]) (by rfl) rfl ?_ ?_
          · go_simp
            (try simp only [i64_w])
            try rfl
          refine hK.out _ _ ⟨gb300, m8_, (by rw [ha.out]; exact putSel_upk 6 hb_ rfl rfl rfl), Q_BK277, Q_BK278, Q_BK290, Q_HB, Q_BK300, Q_GW300, Q_GE300, Q_NB277_300, Q_NB300_277, Q_NB278_300, Q_NB300_278, Q_NB290_300, Q_NB300_290, fun h0_ => absurd ((hoff 9 (by kernel_rfl)).symm.trans h0_) (by decide), Q_X8_⟩
        refine steps_cons ?_ ?_
        · rintro b a w' ⟨gb300, m8_, ha, Q_BK277, Q_BK278, Q_BK290, Q_HB, Q_BK300, Q_GW300, Q_GE300, Q_NB277_300, Q_NB300_277, Q_NB278_300, Q_NB300_278, Q_NB290_300, Q_NB300_290, Q_BK300_e9, Q_X8_⟩ hb_ hon hoff
          refine ⟨_, rfl, fun K hK => ?_⟩
          have e28 : a.tmps[28]? = some (.tuple #[.agg #[.string t296, .string t297, .int .i64 t298], .int .i64 t299]) := by rw [ha]; exact putSel_on (e := (5, 28, .tuple #[.agg #[.string t296, .string t297, .int .i64 t298], .int .i64 t299])) 5 rfl rfl (hon 5 (by kernel_rfl)) rfl
          replace ha := Aside0.mk ha
          have BK277 := Aside0.mk Q_BK277
          have BK278 := Aside0.mk Q_BK278
          have BK290 := Aside0.mk Q_BK290
          have HB := Aside0.mk Q_HB
          refine value_ (w1 := w') (v := .int .i64 t299) (by rfl) rfl ?_ ?_
          · go_simp
            (try simp only [i64_w])
            try rfl
          refine hK.out _ _ ⟨gb300, m8_, (by rw [ha.out]; exact putSel_upk 7 hb_ rfl rfl rfl), Q_BK277, Q_BK278, Q_BK290, Q_HB, Q_BK300, Q_GW300, Q_GE300, Q_NB277_300, Q_NB300_277, Q_NB278_300, Q_NB300_278, Q_NB290_300, Q_NB300_290, Q_BK300_e9, Q_X8_⟩
        refine steps_cons ?_ ?_
        · rintro b a w' ⟨gb300, m8_, ha, Q_BK277, Q_BK278, Q_BK290, Q_HB, Q_BK300, Q_GW300, Q_GE300, Q_NB277_300, Q_NB300_277, Q_NB278_300, Q_NB300_278, Q_NB290_300, Q_NB300_290, Q_BK300_e9, Q_X8_⟩ hb_ hon hoff
          refine ⟨_, rfl, fun K hK => ?_⟩
          replace ha := Aside0.mk ha
          have BK277 := Aside0.mk Q_BK277
          have BK278 := Aside0.mk Q_BK278
          have BK290 := Aside0.mk Q_BK290
          have HB := Aside0.mk Q_HB
          refine box_step ?hg (N := 8) ?hd (cs := #[.string (⟨#[]⟩ : ByteArray), .string (⟨#[]⟩ : ByteArray), .int .i64 0]) (t := 26) ?hr ?_; (case hd => rfl); (case hg => rfl); (case hr => first | (go_simp; done) | (go_simp; rfl))
          intro gb300 hg w43 hbox hb
          have n0_ := Aside0.mk (blk_below (g := gb277) (o := .cells #[.string a0_0, .string a0_1, .int .i64 a0_2] 23 (0, 0)) (by (with_reducible repeat (first | refine blk_drewN ?_ _ | refine blk_drew ?_ | refine blk_alloc ?_ _)); exact BK277.out) hb)
          have n1_ := Aside0.mk (blk_below (g := gb278) (o := .cells #[.string a1_0, .string a1_1] 36 (0, 0)) (by (with_reducible repeat (first | refine blk_drewN ?_ _ | refine blk_drew ?_ | refine blk_alloc ?_ _)); exact BK278.out) hb)
          have n2_ := Aside0.mk (blk_below (g := gb290) (o := .cells #[.string t286, .string t287, .int .i64 t288] 26 (0, 0)) (by (with_reducible repeat (first | refine blk_drewN ?_ _ | refine blk_drew ?_ | refine blk_alloc ?_ _)); exact BK290.out) hb)
          have n3_ := Aside0.mk (below_step (by repeat (first | (with_reducible first | exact HB.out | apply below_alloc | apply pw_below_drewN | apply below_drew1 | refine below_set ?_ GE277.out | refine below_set ?_ GE278.out | refine below_set ?_ GE290.out) | exact HB.out)) hb)
          have n4_ := Aside0.mk (hbox)
          have n5_ := Aside0.mk ((by rw [hg]; exact (below_size (by repeat (first | (with_reducible first | exact HB.out | apply below_alloc | apply pw_below_drewN | apply below_drew1 | refine below_set ?_ GE277.out | refine below_set ?_ GE278.out | refine below_set ?_ GE290.out) | exact HB.out))) : w.heap.size ≤ gb300))
          have n6_ := Aside0.mk ((by rw [hg]; exact (below_size (by repeat (first | (with_reducible first | exact HB.out | apply below_alloc | apply pw_below_drewN | apply below_drew1 | refine below_set ?_ GE277.out | refine below_set ?_ GE278.out | refine below_set ?_ GE290.out) | exact HB.out))) : w.heap.size ≤ gb300))
          have n7_ := Aside0.mk ((by rw [hg]; exact Nat.ne_of_lt (blk_lt (g := gb277) (o := .cells #[.string a0_0, .string a0_1, .int .i64 a0_2] 23 (0, 0)) (by (with_reducible repeat (first | refine blk_drewN ?_ _ | refine blk_drew ?_ | refine blk_alloc ?_ _)); exact BK277.out)) : gb277 ≠ gb300))
          have n8_ := Aside0.mk ((by rw [hg]; exact Nat.ne_of_gt (blk_lt (g := gb277) (o := .cells #[.string a0_0, .string a0_1, .int .i64 a0_2] 23 (0, 0)) (by (with_reducible repeat (first | refine blk_drewN ?_ _ | refine blk_drew ?_ | refine blk_alloc ?_ _)); exact BK277.out)) : gb300 ≠ gb277))
          have n9_ := Aside0.mk ((by rw [hg]; exact Nat.ne_of_lt (blk_lt (g := gb278) (o := .cells #[.string a1_0, .string a1_1] 36 (0, 0)) (by (with_reducible repeat (first | refine blk_drewN ?_ _ | refine blk_drew ?_ | refine blk_alloc ?_ _)); exact BK278.out)) : gb278 ≠ gb300))
          have n10_ := Aside0.mk ((by rw [hg]; exact Nat.ne_of_gt (blk_lt (g := gb278) (o := .cells #[.string a1_0, .string a1_1] 36 (0, 0)) (by (with_reducible repeat (first | refine blk_drewN ?_ _ | refine blk_drew ?_ | refine blk_alloc ?_ _)); exact BK278.out)) : gb300 ≠ gb278))
          have n11_ := Aside0.mk ((by rw [hg]; exact Nat.ne_of_lt (blk_lt (g := gb290) (o := .cells #[.string t286, .string t287, .int .i64 t288] 26 (0, 0)) (by (with_reducible repeat (first | refine blk_drewN ?_ _ | refine blk_drew ?_ | refine blk_alloc ?_ _)); exact BK290.out)) : gb290 ≠ gb300))
          have n12_ := Aside0.mk ((by rw [hg]; exact Nat.ne_of_gt (blk_lt (g := gb290) (o := .cells #[.string t286, .string t287, .int .i64 t288] 26 (0, 0)) (by (with_reducible repeat (first | refine blk_drewN ?_ _ | refine blk_drew ?_ | refine blk_alloc ?_ _)); exact BK290.out)) : gb300 ≠ gb290))
          clear BK277
          clear BK278
          clear BK290
          clear HB
          have BK277 := n0_
          have BK278 := n1_
          have BK290 := n2_
          have HB := n3_
          have BK300 := n4_
          have GW300 := n5_
          have GE300 := n6_
          have NB277_300 := n7_
          have NB300_277 := n8_
          have NB278_300 := n9_
          have NB300_278 := n10_
          have NB290_300 := n11_
          have NB300_290 := n12_
          clear n0_ n1_ n2_ n3_ n4_ n5_ n6_ n7_ n8_ n9_ n10_ n11_ n12_
          clear hb hbox hg
          refine hK.out _ _ ⟨gb300, (.pointer (some ⟨gb300, 0, none⟩)), (by rw [ha.out]; exact putSel_upk 8 hb_ rfl rfl rfl), (by (with_reducible repeat (first | refine blk_drewN ?_ _ | refine blk_drew ?_ | refine blk_alloc ?_ _)); exact BK277.out), (by (with_reducible repeat (first | refine blk_drewN ?_ _ | refine blk_drew ?_ | refine blk_alloc ?_ _)); exact BK278.out), (by (with_reducible repeat (first | refine blk_drewN ?_ _ | refine blk_drew ?_ | refine blk_alloc ?_ _)); exact BK290.out), (by repeat (first | (with_reducible first | exact HB.out | apply below_alloc | apply pw_below_drewN | apply below_drew1 | refine below_set ?_ GE277.out | refine below_set ?_ GE278.out | refine below_set ?_ GE290.out | refine below_set ?_ GE300.out) | exact HB.out)), fun _ _ => (by (with_reducible repeat (first | refine blk_drewN ?_ _ | refine blk_drew ?_ | refine blk_alloc ?_ _)); exact BK300.out), fun _ => GW300.out, fun _ => GE300.out, fun _ => NB277_300.out, fun _ => NB300_277.out, fun _ => NB278_300.out, fun _ => NB300_278.out, fun _ => NB290_300.out, fun _ => NB300_290.out, fun h0_ => absurd ((hoff 9 (by kernel_rfl)).symm.trans h0_) (by decide), fun _ => rfl⟩
        refine steps_cons ?_ ?_
        · rintro b a w' ⟨gb300, m8_, ha, Q_BK277, Q_BK278, Q_BK290, Q_HB, Q_BK300, Q_GW300, Q_GE300, Q_NB277_300, Q_NB300_277, Q_NB278_300, Q_NB300_278, Q_NB290_300, Q_NB300_290, Q_BK300_e9, Q_X8_⟩ hb_ hon hoff
          refine ⟨_, rfl, fun K hK => ?_⟩
          have e8 : a.tmps[8]? = some (m8_) := by rw [ha]; exact putSel_on (e := (8, 8, m8_)) 8 rfl rfl (hon 8 (by kernel_rfl)) rfl
          rw [Q_X8_ (hon 8 (by kernel_rfl))] at e8
          have e34 : a.tmps[34]? = some (.agg #[.string t296, .string t297, .int .i64 t298]) := by rw [ha]; exact putSel_on (e := (6, 34, .agg #[.string t296, .string t297, .int .i64 t298])) 6 rfl rfl (hon 6 (by kernel_rfl)) rfl
          replace ha := Aside0.mk ha
          have BK277 := Aside0.mk Q_BK277
          have BK278 := Aside0.mk Q_BK278
          have BK290 := Aside0.mk Q_BK290
          have HB := Aside0.mk Q_HB
          have BK300 := Aside0.mk (Q_BK300 (hon 8 (by kernel_rfl)) hb_)
          have GW300 := Aside0.mk (Q_GW300 (hon 8 (by kernel_rfl)))
          have GE300 := Aside0.mk (Q_GE300 (hon 8 (by kernel_rfl)))
          have NB277_300 := Aside0.mk (Q_NB277_300 (hon 8 (by kernel_rfl)))
          have NB300_277 := Aside0.mk (Q_NB300_277 (hon 8 (by kernel_rfl)))
          have NB278_300 := Aside0.mk (Q_NB278_300 (hon 8 (by kernel_rfl)))
          have NB300_278 := Aside0.mk (Q_NB300_278 (hon 8 (by kernel_rfl)))
          have NB290_300 := Aside0.mk (Q_NB290_300 (hon 8 (by kernel_rfl)))
          have NB300_290 := Aside0.mk (Q_NB300_290 (hon 8 (by kernel_rfl)))
          have hs48 : w'.cell? ⟨gb300, 0, none⟩ = some (.string (⟨#[]⟩ : ByteArray)) := (blk_cell BK300.out 0).trans rfl
          have hfs48 := blk_frozen BK300.out 0
          have hns48_0 := NB277_300.out
          have hns48_1 := NB278_300.out
          have hns48_2 := NB290_300.out
          have hms48_0 := NB300_277.out
          have hms48_1 := NB300_278.out
          have hms48_2 := NB300_290.out
          have hs49 : w'.cell? ⟨gb300, 1, none⟩ = some (.string (⟨#[]⟩ : ByteArray)) := (blk_cell BK300.out 1).trans rfl
          have hfs49 := blk_frozen BK300.out 1
          have hns49_0 := NB277_300.out
          have hns49_1 := NB278_300.out
          have hns49_2 := NB290_300.out
          have hms49_0 := NB300_277.out
          have hms49_1 := NB300_278.out
          have hms49_2 := NB300_290.out
          have hs50 : w'.cell? ⟨gb300, 2, none⟩ = some (.int .i64 0) := (blk_cell BK300.out 2).trans rfl
          have hfs50 := blk_frozen BK300.out 2
          have hns50_0 := NB277_300.out
          have hns50_1 := NB278_300.out
          have hns50_2 := NB290_300.out
          have hms50_0 := NB300_277.out
          have hms50_1 := NB300_278.out
          have hms50_2 := NB300_290.out
          refine skip_ (w1 := ?_) (by rfl) rfl ?_ ?_
          rotate_left
          · go_simp
            rfl
          refine hK.out _ _ ⟨gb300, m8_, (by rw [ha.out]; exact putSel_none (v := undef) rfl), (by (with_reducible repeat (first | refine blk_drewN ?_ _ | refine blk_drew ?_ | refine blk_alloc ?_ _)); refine blk_far ?_ NB277_300.out _; (with_reducible repeat (first | refine blk_drewN ?_ _ | refine blk_drew ?_ | refine blk_alloc ?_ _)); refine blk_far ?_ NB277_300.out _; (with_reducible repeat (first | refine blk_drewN ?_ _ | refine blk_drew ?_ | refine blk_alloc ?_ _)); refine blk_far ?_ NB277_300.out _; (with_reducible repeat (first | refine blk_drewN ?_ _ | refine blk_drew ?_ | refine blk_alloc ?_ _)); exact BK277.out), (by (with_reducible repeat (first | refine blk_drewN ?_ _ | refine blk_drew ?_ | refine blk_alloc ?_ _)); refine blk_far ?_ NB278_300.out _; (with_reducible repeat (first | refine blk_drewN ?_ _ | refine blk_drew ?_ | refine blk_alloc ?_ _)); refine blk_far ?_ NB278_300.out _; (with_reducible repeat (first | refine blk_drewN ?_ _ | refine blk_drew ?_ | refine blk_alloc ?_ _)); refine blk_far ?_ NB278_300.out _; (with_reducible repeat (first | refine blk_drewN ?_ _ | refine blk_drew ?_ | refine blk_alloc ?_ _)); exact BK278.out), (by (with_reducible repeat (first | refine blk_drewN ?_ _ | refine blk_drew ?_ | refine blk_alloc ?_ _)); refine blk_far ?_ NB290_300.out _; (with_reducible repeat (first | refine blk_drewN ?_ _ | refine blk_drew ?_ | refine blk_alloc ?_ _)); refine blk_far ?_ NB290_300.out _; (with_reducible repeat (first | refine blk_drewN ?_ _ | refine blk_drew ?_ | refine blk_alloc ?_ _)); refine blk_far ?_ NB290_300.out _; (with_reducible repeat (first | refine blk_drewN ?_ _ | refine blk_drew ?_ | refine blk_alloc ?_ _)); exact BK290.out), (by repeat (first | (with_reducible first | exact HB.out | apply below_alloc | apply pw_below_drewN | apply below_drew1 | refine below_set ?_ GE277.out | refine below_set ?_ GE278.out | refine below_set ?_ GE290.out | refine below_set ?_ GE300.out) | exact HB.out)), fun _ h1_ => absurd ((up_self b 9).symm.trans h1_) (by decide), fun _ => GW300.out, fun _ => GE300.out, fun _ => NB277_300.out, fun _ => NB300_277.out, fun _ => NB278_300.out, fun _ => NB300_278.out, fun _ => NB290_300.out, fun _ => NB300_290.out, fun _ => (by (with_reducible repeat (first | refine blk_drewN ?_ _ | refine blk_drew ?_ | refine blk_alloc ?_ _)); refine blk_put (cs := #[.string t296, .string t297, .int .i64 0]) ?_ 2 _ rfl; (with_reducible repeat (first | refine blk_drewN ?_ _ | refine blk_drew ?_ | refine blk_alloc ?_ _)); refine blk_put (cs := #[.string t296, .string (⟨#[]⟩ : ByteArray), .int .i64 0]) ?_ 1 _ rfl; (with_reducible repeat (first | refine blk_drewN ?_ _ | refine blk_drew ?_ | refine blk_alloc ?_ _)); refine blk_put (cs := #[.string (⟨#[]⟩ : ByteArray), .string (⟨#[]⟩ : ByteArray), .int .i64 0]) ?_ 0 _ rfl; (with_reducible repeat (first | refine blk_drewN ?_ _ | refine blk_drew ?_ | refine blk_alloc ?_ _)); exact BK300.out), Q_X8_⟩
        refine steps_cons ?_ ?_
        · rintro b a w' ⟨gb300, m8_, ha, Q_BK277, Q_BK278, Q_BK290, Q_HB, Q_BK300, Q_GW300, Q_GE300, Q_NB277_300, Q_NB300_277, Q_NB278_300, Q_NB300_278, Q_NB290_300, Q_NB300_290, Q_BK300_e9, Q_X8_⟩ hb_ hon hoff
          refine ⟨_, rfl, fun K hK => ?_⟩
          have e35 : a.tmps[35]? = some (.int .i64 t299) := by rw [ha]; exact putSel_on (e := (7, 35, .int .i64 t299)) 7 rfl rfl (hon 7 (by kernel_rfl)) rfl
          replace ha := Aside0.mk ha
          have BK277 := Aside0.mk Q_BK277
          have BK278 := Aside0.mk Q_BK278
          have BK290 := Aside0.mk Q_BK290
          have HB := Aside0.mk Q_HB
          have GW300 := Aside0.mk (Q_GW300 (hon 8 (by kernel_rfl)))
          have GE300 := Aside0.mk (Q_GE300 (hon 8 (by kernel_rfl)))
          have NB277_300 := Aside0.mk (Q_NB277_300 (hon 8 (by kernel_rfl)))
          have NB300_277 := Aside0.mk (Q_NB300_277 (hon 8 (by kernel_rfl)))
          have NB278_300 := Aside0.mk (Q_NB278_300 (hon 8 (by kernel_rfl)))
          have NB300_278 := Aside0.mk (Q_NB300_278 (hon 8 (by kernel_rfl)))
          have NB290_300 := Aside0.mk (Q_NB290_300 (hon 8 (by kernel_rfl)))
          have NB300_290 := Aside0.mk (Q_NB300_290 (hon 8 (by kernel_rfl)))
          have BK300 := Aside0.mk (Q_BK300_e9 (hon 9 (by kernel_rfl)))
          refine value_ (w1 := w') (v := .int .i64 t299) (by rfl) rfl ?_ ?_
          · go_simp
            (try simp only [i64_w])
            try rfl
          refine hK.out _ _ ⟨gb300, m8_, (by rw [ha.out]; exact putSel_upk 9 hb_ rfl rfl rfl), Q_BK277, Q_BK278, Q_BK290, Q_HB, fun _ h1_ => absurd ((hon 9 (by kernel_rfl)).symm.trans h1_) (by decide), Q_GW300, Q_GE300, Q_NB277_300, Q_NB300_277, Q_NB278_300, Q_NB300_278, Q_NB290_300, Q_NB300_290, Q_BK300_e9, Q_X8_⟩
        exact steps_nil
      rintro b a w50 hall ⟨gb300, m8_, ha, Q_BK277, Q_BK278, Q_BK290, Q_HB, Q_BK300, Q_GW300, Q_GE300, Q_NB277_300, Q_NB300_277, Q_NB278_300, Q_NB300_278, Q_NB290_300, Q_NB300_290, Q_BK300_e9, Q_X8_⟩
      clear BK277 BK278 BK290 HB
      have hb0_ := hall 0 (by kernel_rfl)
      have hb1_ := hall 1 (by kernel_rfl)
      have hb2_ := hall 2 (by kernel_rfl)
      have hb3_ := hall 3 (by kernel_rfl)
      have hb4_ := hall 4 (by kernel_rfl)
      have hb5_ := hall 5 (by kernel_rfl)
      have hb6_ := hall 6 (by kernel_rfl)
      have hb7_ := hall 7 (by kernel_rfl)
      have hb8_ := hall 8 (by kernel_rfl)
      have hb9_ := hall 9 (by kernel_rfl)
      have hb10_ := hall 10 (by kernel_rfl)
      subst ha
      obtain rfl := Q_X8_ hb8_
      simp only [putSel, hb0_, hb1_, hb2_, hb3_, hb4_, hb5_, hb6_, hb7_, hb8_, hb9_, hb10_, if_true, Act.put, List.setIfInBounds_toArray, List.set_cons_zero, List.set_cons_succ]
      have BK277 := Aside0.mk Q_BK277
      clear Q_BK277
      have BK278 := Aside0.mk Q_BK278
      clear Q_BK278
      have BK290 := Aside0.mk Q_BK290
      clear Q_BK290
      have HB := Aside0.mk Q_HB
      clear Q_HB
      clear Q_BK300
      have GW300 := Aside0.mk (Q_GW300 hb8_)
      clear Q_GW300
      have GE300 := Aside0.mk (Q_GE300 hb8_)
      clear Q_GE300
      have NB277_300 := Aside0.mk (Q_NB277_300 hb8_)
      clear Q_NB277_300
      have NB300_277 := Aside0.mk (Q_NB300_277 hb8_)
      clear Q_NB300_277
      have NB278_300 := Aside0.mk (Q_NB278_300 hb8_)
      clear Q_NB278_300
      have NB300_278 := Aside0.mk (Q_NB300_278 hb8_)
      clear Q_NB300_278
      have NB290_300 := Aside0.mk (Q_NB290_300 hb8_)
      clear Q_NB290_300
      have NB300_290 := Aside0.mk (Q_NB300_290 hb8_)
      clear Q_NB300_290
      have BK300 := Aside0.mk (Q_BK300_e9 hb9_)
      clear Q_BK300_e9
      clear hall hb0_ hb1_ hb2_ hb3_ hb4_ hb5_ hb6_ hb7_ hb8_ hb9_ hb10_
      go_upto_region 10 with (fail)
      go_cut [44] (fun v44 wc => ∃ (kq : Nat) (x44_24 : Bool), v44 = .bool x44_24 ∧ Aside0 (laws_FnExactAppendRecord.j0 kq x44_24 = some r) ∧ Aside0 (kq ≤ k) ∧ Aside0 (wc.heap[gb277]? = some (.cells #[.string a0_0, .string a0_1, .int .i64 a0_2] 23 (0, 0))) ∧ Aside0 (wc.heap[gb278]? = some (.cells #[.string a1_0, .string a1_1] 36 (0, 0))) ∧ Aside0 (wc.heap[gb290]? = some (.cells #[.string t286, .string t287, .int .i64 t288] 26 (0, 0))) ∧ Aside0 (wc.heap[gb300]? = some (.cells #[.string t296, .string t297, .int .i64 t298] 26 (0, 0))) ∧ Aside0 (Below w.heap.size w wc))
      case first =>
        have H := HC25.out
        clear HC25
        replace H := Option.bind_eq_some_iff.mp H
        obtain ⟨t301, A510, H⟩ := H
        replace H : (if t301 = true then (laws_FnExactAppendRecord.j0 k (t299 != t289)) else (laws_FnExactAppendRecord.j0 k true)) = some r := H
        have A51 := Aside0.mk A510
        clear A510
        by_cases c52 : t301 = true
        · subst c52
          have H1 : (laws_FnExactAppendRecord.j0 k (t299 != t289)) = some r := by rw [if_pos rfl] at H; exact H
          clear H
          have H := H1
          clear H1
          have H' := Aside0.mk H
          clear H
          have hnb53 := NB300_277.out
          have hnc53 := NB277_300.out
          have hnb54 := NB300_278.out
          have hnc54 := NB278_300.out
          have hnb55 := NB300_290.out
          have hnc55 := NB290_300.out
          have hcz56_0 : w50.cell? ⟨gb300, 0, none⟩ = some (.string t296) := (blk_cell BK300.out 0).trans rfl
          have hcz56_1 : w50.cell? ⟨gb300, 1, none⟩ = some (.string t297) := (blk_cell BK300.out 1).trans rfl
          have hcz56_2 : w50.cell? ⟨gb300, 2, none⟩ = some (.int .i64 t298) := (blk_cell BK300.out 2).trans rfl
          have hfz56_0 := blk_frozen BK300.out 0
          have hfz56_1 := blk_frozen BK300.out 1
          have hfz56_2 := blk_frozen BK300.out 2
          have hnb57 := NB290_277.out
          have hnc57 := NB277_290.out
          have hnb58 := NB290_278.out
          have hnc58 := NB278_290.out
          have hcz59_0 : w50.cell? ⟨gb290, 0, none⟩ = some (.string t286) := (blk_cell BK290.out 0).trans rfl
          have hcz59_1 : w50.cell? ⟨gb290, 1, none⟩ = some (.string t287) := (blk_cell BK290.out 1).trans rfl
          have hcz59_2 : w50.cell? ⟨gb290, 2, none⟩ = some (.int .i64 t288) := (blk_cell BK290.out 2).trans rfl
          have hfz59_0 := blk_frozen BK290.out 0
          have hfz59_1 := blk_frozen BK290.out 1
          have hfz59_2 := blk_frozen BK290.out 2
          go_wp2_with (first | ((with_reducible refine gate_callee (f := 19) rfl ?_); refine goesL_ (some 38) rfl rfl Tryd.func19 (by kernel_rfl) rfl #[.agg #[.string t296, .string t297, .int .i64 t298], .agg #[.string t286, .string t287, .int .i64 t288]] rfl (by (try simp only [List.map_toArray, List.map_cons, List.map_nil]); first | done | rfl | (simp only [List.length_drop, List.length_take]; rfl)) ?_; (with_reducible refine (laws_eqLog.calls t296 t297 t298 t286 t287 t288 true _ A51.out).mono ?_); rintro e w60 ⟨rfl, hb⟩; refine ⟨_, rfl, ?_⟩; have n0_ := Aside0.mk (blk_below (g := gb277) (o := .cells #[.string a0_0, .string a0_1, .int .i64 a0_2] 23 (0, 0)) (by (with_reducible repeat (first | refine blk_drewN ?_ _ | refine blk_drew ?_ | refine blk_alloc ?_ _)); exact BK277.out) hb); have n1_ := Aside0.mk (blk_below (g := gb278) (o := .cells #[.string a1_0, .string a1_1] 36 (0, 0)) (by (with_reducible repeat (first | refine blk_drewN ?_ _ | refine blk_drew ?_ | refine blk_alloc ?_ _)); exact BK278.out) hb); have n2_ := Aside0.mk (blk_below (g := gb290) (o := .cells #[.string t286, .string t287, .int .i64 t288] 26 (0, 0)) (by (with_reducible repeat (first | refine blk_drewN ?_ _ | refine blk_drew ?_ | refine blk_alloc ?_ _)); exact BK290.out) hb); have n3_ := Aside0.mk (blk_below (g := gb300) (o := .cells #[.string t296, .string t297, .int .i64 t298] 26 (0, 0)) (by (with_reducible repeat (first | refine blk_drewN ?_ _ | refine blk_drew ?_ | refine blk_alloc ?_ _)); exact BK300.out) hb); have n4_ := Aside0.mk (below_step (by repeat (first | (with_reducible first | exact HB.out | apply below_alloc | apply pw_below_drewN | apply below_drew1 | refine below_set ?_ GE277.out | refine below_set ?_ GE278.out | refine below_set ?_ GE290.out | refine below_set ?_ GE300.out) | exact HB.out)) hb); clear BK277; clear BK278; clear BK290; clear BK300; clear HB; have BK277 := n0_; have BK278 := n1_; have BK290 := n2_; have BK300 := n3_; have HB := n4_; clear n0_ n1_ n2_ n3_ n4_; (try clear hb); (try clear hb2); (try clear hk); (try clear hi)))
          go_meet
          case rel => exact ⟨_, ((t299 != t289)), (by first | rfl | (simp; done) | (simp [*]; done)), H', ⟨by first | omega | exact Nat.le_refl _⟩, ⟨by (with_reducible repeat (first | refine blk_drewN ?_ _ | refine blk_drew ?_ | refine blk_alloc ?_ _)); exact BK277.out⟩, ⟨by (with_reducible repeat (first | refine blk_drewN ?_ _ | refine blk_drew ?_ | refine blk_alloc ?_ _)); exact BK278.out⟩, ⟨by (with_reducible repeat (first | refine blk_drewN ?_ _ | refine blk_drew ?_ | refine blk_alloc ?_ _)); exact BK290.out⟩, ⟨by (with_reducible repeat (first | refine blk_drewN ?_ _ | refine blk_drew ?_ | refine blk_alloc ?_ _)); exact BK300.out⟩, ⟨by repeat (first | (with_reducible first | exact HB.out | apply below_alloc | apply pw_below_drewN | apply below_drew1 | refine below_set ?_ GE277.out | refine below_set ?_ GE278.out | refine below_set ?_ GE290.out | refine below_set ?_ GE300.out) | exact HB.out)⟩⟩
        · replace c52 := Bool.eq_false_iff.mpr c52
          subst c52
          have H1 : (laws_FnExactAppendRecord.j0 k true) = some r := by rw [if_neg (show ¬ (false = true) by decide)] at H; exact H
          clear H
          have H := H1
          clear H1
          have H' := Aside0.mk H
          clear H
          have hnb61 := NB300_277.out
          have hnc61 := NB277_300.out
          have hnb62 := NB300_278.out
          have hnc62 := NB278_300.out
          have hnb63 := NB300_290.out
          have hnc63 := NB290_300.out
          have hcz64_0 : w50.cell? ⟨gb300, 0, none⟩ = some (.string t296) := (blk_cell BK300.out 0).trans rfl
          have hcz64_1 : w50.cell? ⟨gb300, 1, none⟩ = some (.string t297) := (blk_cell BK300.out 1).trans rfl
          have hcz64_2 : w50.cell? ⟨gb300, 2, none⟩ = some (.int .i64 t298) := (blk_cell BK300.out 2).trans rfl
          have hfz64_0 := blk_frozen BK300.out 0
          have hfz64_1 := blk_frozen BK300.out 1
          have hfz64_2 := blk_frozen BK300.out 2
          have hnb65 := NB290_277.out
          have hnc65 := NB277_290.out
          have hnb66 := NB290_278.out
          have hnc66 := NB278_290.out
          have hcz67_0 : w50.cell? ⟨gb290, 0, none⟩ = some (.string t286) := (blk_cell BK290.out 0).trans rfl
          have hcz67_1 : w50.cell? ⟨gb290, 1, none⟩ = some (.string t287) := (blk_cell BK290.out 1).trans rfl
          have hcz67_2 : w50.cell? ⟨gb290, 2, none⟩ = some (.int .i64 t288) := (blk_cell BK290.out 2).trans rfl
          have hfz67_0 := blk_frozen BK290.out 0
          have hfz67_1 := blk_frozen BK290.out 1
          have hfz67_2 := blk_frozen BK290.out 2
          go_wp2_with (first | ((with_reducible refine gate_callee (f := 19) rfl ?_); refine goesL_ (some 38) rfl rfl Tryd.func19 (by kernel_rfl) rfl #[.agg #[.string t296, .string t297, .int .i64 t298], .agg #[.string t286, .string t287, .int .i64 t288]] rfl (by (try simp only [List.map_toArray, List.map_cons, List.map_nil]); first | done | rfl | (simp only [List.length_drop, List.length_take]; rfl)) ?_; (with_reducible refine (laws_eqLog.calls t296 t297 t298 t286 t287 t288 false _ A51.out).mono ?_); rintro e w68 ⟨rfl, hb⟩; refine ⟨_, rfl, ?_⟩; have n0_ := Aside0.mk (blk_below (g := gb277) (o := .cells #[.string a0_0, .string a0_1, .int .i64 a0_2] 23 (0, 0)) (by (with_reducible repeat (first | refine blk_drewN ?_ _ | refine blk_drew ?_ | refine blk_alloc ?_ _)); exact BK277.out) hb); have n1_ := Aside0.mk (blk_below (g := gb278) (o := .cells #[.string a1_0, .string a1_1] 36 (0, 0)) (by (with_reducible repeat (first | refine blk_drewN ?_ _ | refine blk_drew ?_ | refine blk_alloc ?_ _)); exact BK278.out) hb); have n2_ := Aside0.mk (blk_below (g := gb290) (o := .cells #[.string t286, .string t287, .int .i64 t288] 26 (0, 0)) (by (with_reducible repeat (first | refine blk_drewN ?_ _ | refine blk_drew ?_ | refine blk_alloc ?_ _)); exact BK290.out) hb); have n3_ := Aside0.mk (blk_below (g := gb300) (o := .cells #[.string t296, .string t297, .int .i64 t298] 26 (0, 0)) (by (with_reducible repeat (first | refine blk_drewN ?_ _ | refine blk_drew ?_ | refine blk_alloc ?_ _)); exact BK300.out) hb); have n4_ := Aside0.mk (below_step (by repeat (first | (with_reducible first | exact HB.out | apply below_alloc | apply pw_below_drewN | apply below_drew1 | refine below_set ?_ GE277.out | refine below_set ?_ GE278.out | refine below_set ?_ GE290.out | refine below_set ?_ GE300.out) | exact HB.out)) hb); clear BK277; clear BK278; clear BK290; clear BK300; clear HB; have BK277 := n0_; have BK278 := n1_; have BK290 := n2_; have BK300 := n3_; have HB := n4_; clear n0_ n1_ n2_ n3_ n4_; (try clear hb); (try clear hb2); (try clear hk); (try clear hi)))
          go_meet
          case rel => exact ⟨_, (true), (by first | rfl | (simp; done) | (simp [*]; done)), H', ⟨by first | omega | exact Nat.le_refl _⟩, ⟨by (with_reducible repeat (first | refine blk_drewN ?_ _ | refine blk_drew ?_ | refine blk_alloc ?_ _)); exact BK277.out⟩, ⟨by (with_reducible repeat (first | refine blk_drewN ?_ _ | refine blk_drew ?_ | refine blk_alloc ?_ _)); exact BK278.out⟩, ⟨by (with_reducible repeat (first | refine blk_drewN ?_ _ | refine blk_drew ?_ | refine blk_alloc ?_ _)); exact BK290.out⟩, ⟨by (with_reducible repeat (first | refine blk_drewN ?_ _ | refine blk_drew ?_ | refine blk_alloc ?_ _)); exact BK300.out⟩, ⟨by repeat (first | (with_reducible first | exact HB.out | apply below_alloc | apply pw_below_drewN | apply below_drew1 | refine below_set ?_ GE277.out | refine below_set ?_ GE278.out | refine below_set ?_ GE290.out | refine below_set ?_ GE300.out) | exact HB.out)⟩⟩
      case rest =>
        clear HC25
        try clear c1
        try clear c2
        try clear p2
        try clear c5
        try clear c6
        try clear c13
        try clear c19
        try clear c22
        try clear c23
        try clear c52
        try clear c53
        try clear c54
        try clear c55
        try clear c57
        try clear c58
        try clear c61
        try clear c62
        try clear c63
        try clear c65
        try clear c66
        try clear hcz56_0
        try clear hcz56_1
        try clear hcz56_2
        try clear hcz59_0
        try clear hcz59_1
        try clear hcz59_2
        try clear hcz64_0
        try clear hcz64_1
        try clear hcz64_2
        try clear hcz67_0
        try clear hcz67_1
        try clear hcz67_2
        try clear hfz56_0
        try clear hfz56_1
        try clear hfz56_2
        try clear hfz59_0
        try clear hfz59_1
        try clear hfz59_2
        try clear hfz64_0
        try clear hfz64_1
        try clear hfz64_2
        try clear hfz67_0
        try clear hfz67_1
        try clear hfz67_2
        obtain ⟨kq, x44_24, rfl, HA, HJ24, BK277, BK278, BK290, BK300, HB⟩ := hcut
        cases kq with
        | zero => exact absurd HA.out (by simp [laws_FnExactAppendRecord.j0])
        | succ kj24 =>
          have H := HA.out
          clear HA
          simp only [laws_FnExactAppendRecord.j0] at H
          by_cases c69 : x44_24 = true
          · subst c69
            have H1 : (some false) = some r := by rw [if_pos rfl] at H; exact H
            clear H
            have H := H1
            clear H1
            obtain rfl := Option.some.inj H
            go_wp2
            go_ret
            exact ⟨by first | rfl | (simp [errW_none, errW_some] <;> rfl) | (simp [*, errW_none, errW_some] <;> rfl), by repeat (first | (with_reducible first | exact HB.out | apply below_alloc | apply pw_below_drewN | apply below_drew1 | refine below_set ?_ GE277.out | refine below_set ?_ GE278.out | refine below_set ?_ GE290.out | refine below_set ?_ GE300.out) | exact HB.out)⟩
          · replace c69 := Bool.eq_false_iff.mpr c69
            subst c69
            have H1 : (some true) = some r := by rw [if_neg (show ¬ (false = true) by decide)] at H; exact H
            clear H
            have H := H1
            clear H1
            obtain rfl := Option.some.inj H
            go_wp2
            go_ret
            exact ⟨by first | rfl | (simp [errW_none, errW_some] <;> rfl) | (simp [*, errW_none, errW_some] <;> rfl), by repeat (first | (with_reducible first | exact HB.out | apply below_alloc | apply pw_below_drewN | apply below_drew1 | refine below_set ?_ GE277.out | refine below_set ?_ GE278.out | refine below_set ?_ GE290.out | refine below_set ?_ GE300.out) | exact HB.out)⟩

end

end Go.Proofs.YtokmidpeeejahaaDoor.G
