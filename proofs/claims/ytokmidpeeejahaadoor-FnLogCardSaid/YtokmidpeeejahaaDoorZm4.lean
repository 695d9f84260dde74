/- Texts of this seat, joined: what the claim's last text rests on. Some began as words of the kit's print; what is not needed is left out. -/
import Derived.Test.YtokmidpeeejahaaDoorZm3
import Derived.Test.YtokmidpeeejahaaDoorZm2
-- Written by a program of this session (wip/pd.py), which calls the kit's print; externals' contracts by hand.
namespace Go.Proofs.YtokmidpeeejahaaDoor.G
open Go.Proofs.YtokmidpeeejahaaDoorQ
open Go.RowKit Go.Proofs.YtokmidpeeejahaaDoorW.PrintWords Go.Proofs.YtokmidpeeejahaaDoorW.PrintLast Go.Proofs.YtokmidpeeejahaaDoorW.PrintMore
attribute [local go_sem] max2_int min2_int max_two min_two max_three min_three max_four min_four   -- for this text's walks alone
set_option linter.unusedVariables false
set_option linter.unusedSimpArgs false

section
attribute [local go_sem high] run_add_cat run_slice_cat run_slice_cat_h run_slice_cat_l run_slice_cat_all
/-! ### laws_FnExactLogRecords: function 7 -/
mutual
def laws_FnExactLogRecords.j0 : Nat → List (S40) → Bool → List (S40) → Bool → ByteArray → ByteArray → Int → Option (Bool)
  | 0, _, _, _, _, _, _, _ => none
  | k + 1, x4, x5, x6, x37, x333000, x333001, x333002 => if x37 = true then (some false) else ((laws_markLogRecordS.f k x6 1).bind fun bt349 => ((laws_heldLogRecordS.f k bt349.2 1).bind fun t351 => (if t351 < 0 then (some false) else (if t351 = bt349.1 then ((laws_toLog.f x333000 x333001 x333002).bind fun bt352 => ((impl_LogRecords.f k bt352.1 bt352.2.1 bt352.2.2).bind fun bt355 => ((laws_eqLogRecordS.f k bt355.1 x4).bind fun t359 => (if t359 = true then (laws_FnExactLogRecords.j1 k bt349.2 bt349.1 (bt355.2 != x5)) else (laws_FnExactLogRecords.j1 k bt349.2 bt349.1 true))))) else (some false)))))
def laws_FnExactLogRecords.j1 : Nat → List (S40) → Int → Bool → Option (Bool)
  | 0, _, _, _ => none
  | k + 1, x6, x8, x63 => if x63 = true then (some false) else ((laws_heldLogRecordS.f k x6 1).bind fun t360 => (if t360 < 0 then (some false) else (if t360 = x8 then (some true) else (some false))))
end
end

section
attribute [local go_sem high] run_add_cat run_slice_cat run_slice_cat_h run_slice_cat_l run_slice_cat_all
/-! ### laws_vBig: function 29 -/
def laws_vBig.f (l0 : List Int) : Option (Bool) := some (decide ((l0.length : Int) > 65536))
set_option maxHeartbeats 8000000 in
set_option maxRecDepth 100000 in
theorem laws_vBig.calls (A0 : Option Addr) (c0 : Nat) (l0 : List Int) (r : Bool) (w : World) (hr0 : Kd.C (Kd.int .u8) w A0 l0.length l0) (hc0 : l0.length ≤ c0) (h : laws_vBig.f l0 = some r) :
    Calls Tryd.prog 29 #[.slice A0 l0.length c0] w fun e w' => e = .returned (.bool r) ∧ Drawn0 w w' := by
  have HR0 := Aside0.mk hr0
  have HC0 := Aside0.mk hc0
  clear hr0 hc0
  have H : (some (decide ((l0.length : Int) > 65536))) = some r := h
  clear h
  obtain rfl := Option.some.inj H
  go_enter Tryd.func29, Tryd.ntmps29
  go_wp2
  go_ret
  exact ⟨zz3, zz5⟩

end

section
attribute [local go_sem high] run_add_cat run_slice_cat run_slice_cat_h run_slice_cat_l run_slice_cat_all
/-- A state of type 70 at block g of W; what its slices lead to came in by w0. -/
def IsS70 (w0 W : World) (g : Nat) (f0 : List Int) (f1 : Int) (f2 : Int) : Prop := ∃ A0 c0, W.heap[g]? = some (.cells #[.slice A0 f0.length c0, .int .i64 f1, .int .u64 f2] 70 (0, 0)) ∧ w0.heap.size ≤ g ∧ Kd.C (Kd.int .u8) w0 A0 f0.length f0
theorem IsS70.grown {w0 W : World} {g : Nat} {f0 : List Int} {f1 : Int} {f2 : Int} {W1 : World} {row : Option Nat} (h : IsS70 w0 W g f0 f1 f2) (hw : W.grownBy W1 row) (hne : some g ≠ row) : IsS70 w0 W1 g f0 f1 f2 := by
  obtain ⟨A0, c0, hb, hg, hr0⟩ := h
  exact ⟨A0, c0, blk_grown hb hw hne, hg, hr0⟩
theorem IsS70.kept {w0 W : World} {g : Nat} {f0 : List Int} {f1 : Int} {f2 : Int} {W1 : World} {S : Nat → Prop} (h : IsS70 w0 W g f0 f1 f2) (hk : Kept W W1 S) (hne : ¬ S g) : IsS70 w0 W1 g f0 f1 f2 := by
  obtain ⟨A0, c0, hb, hg, hr0⟩ := h
  exact ⟨A0, c0, blk_kept hb hk hne, hg, hr0⟩
theorem IsS70.below {w0 W : World} {g : Nat} {f0 : List Int} {f1 : Int} {f2 : Int} {W1 : World} (h : IsS70 w0 W g f0 f1 f2) (hw : Below W.heap.size W W1) : IsS70 w0 W1 g f0 f1 f2 := h.grown (grown_of_below hw none) (by simp)
theorem IsS70.alloc {w0 W : World} {g : Nat} {f0 : List Int} {f1 : Int} {f2 : Int} (h : IsS70 w0 W g f0 f1 f2) (o : Obj) : IsS70 w0 (W.alloc o) g f0 f1 f2 := h.below (below_alloc (Below.refl _ _) o)
theorem IsS70.drewN {w0 W : World} {g : Nat} {f0 : List Int} {f1 : Int} {f2 : Int} (h : IsS70 w0 W g f0 f1 f2) (m : Nat) : IsS70 w0 (W.drewN m) g f0 f1 f2 := h
theorem IsS70.drew {w0 W : World} {g : Nat} {f0 : List Int} {f1 : Int} {f2 : Int} (h : IsS70 w0 W g f0 f1 f2) : IsS70 w0 W.drew g f0 f1 f2 := h
theorem IsS70.at_ {w0 W : World} {g : Nat} {f0 : List Int} {f1 : Int} {f2 : Int} {w' : World} {m : Nat} (hq : W.drewN m = w') (h : IsS70 w0 W g f0 f1 f2) : IsS70 w0 w' g f0 f1 f2 := by subst hq; exact IsS70.drewN h m
theorem IsS70.apart {w0 W : World} {g : Nat} {f0 : List Int} {f1 : Int} {f2 : Int} {α : Type} {d : Kd α} {e : Nat} {base : Nat} {ok : Nat → Prop} {v : Value} {xs : List α} (h : IsS70 w0 W g f0 f1 f2) (ho : d.R e W base ok v xs) (ht : ∀ q, q ∈ e :: d.E → q ≠ 70) : d.R e W base (fun k => ok k ∧ k ≠ g) v xs := by
  obtain ⟨A0, c0, hb, hg, hr0⟩ := h
  exact Kd.R_types ho hb ht
theorem IsS70.own_ne {w0 W : World} {g : Nat} {f0 : List Int} {f1 : Int} {f2 : Int} {α : Type} {d : Kd α} {e : Nat} {base : Nat} {ok : Nat → Prop} {v : Value} {xs : List α} (h : IsS70 w0 W g f0 f1 f2) (ho : d.R e W base ok v xs) (ht : e ≠ 70) : some g ≠ v.ownBlock := by
  obtain ⟨A0, c0, hb, hg, hr0⟩ := h
  exact Kd.R_ne ho hb ht
theorem IsS70.lt {w0 W : World} {g : Nat} {f0 : List Int} {f1 : Int} {f2 : Int} (h : IsS70 w0 W g f0 f1 f2) : g < W.heap.size := by
  obtain ⟨A0, c0, hb, hg, hr0⟩ := h
  exact blk_lt hb
theorem IsS70.ge {w0 W : World} {g : Nat} {f0 : List Int} {f1 : Int} {f2 : Int} (h : IsS70 w0 W g f0 f1 f2) : w0.heap.size ≤ g := by
  obtain ⟨A0, c0, hb, hg, hr0⟩ := h
  exact hg
theorem IsS70.far {w0 W : World} {g : Nat} {f0 : List Int} {f1 : Int} {f2 : Int} {p : Addr} (h : IsS70 w0 W g f0 f1 f2) (hne : g ≠ p.block) (u : Value) : IsS70 w0 (W.setCell p u) g f0 f1 f2 := by
  obtain ⟨A0, c0, hb, hg, hr0⟩ := h
  exact ⟨A0, c0, blk_far hb hne u, hg, hr0⟩
theorem cellS70_0 {W : World} {g : Nat} {A0 : Option Addr} {c0 : Nat} {f0 : List Int} {f1 : Int} {f2 : Int} (h : W.heap[g]? = some (.cells #[.slice A0 f0.length c0, .int .i64 f1, .int .u64 f2] 70 (0, 0))) : W.cell? ⟨g, 0, none⟩ = some (.slice A0 f0.length c0) := (blk_cell h 0).trans rfl
theorem cellS70_1 {W : World} {g : Nat} {A0 : Option Addr} {c0 : Nat} {f0 : List Int} {f1 : Int} {f2 : Int} (h : W.heap[g]? = some (.cells #[.slice A0 f0.length c0, .int .i64 f1, .int .u64 f2] 70 (0, 0))) : W.cell? ⟨g, 1, none⟩ = some (.int .i64 f1) := (blk_cell h 1).trans rfl
theorem IsS70.set_1 {w0 W : World} {g : Nat} {f0 : List Int} {f1 : Int} {f2 : Int} (h : IsS70 w0 W g f0 f1 f2) (x : Int) : IsS70 w0 (W.setCell ⟨g, 1, none⟩ (.int .i64 x)) g f0 x f2 := by
  obtain ⟨A0, c0, hb, hg, hr0⟩ := h
  exact ⟨A0, c0, by simpa using blk_set hb 1 (.int .i64 x), hg, hr0⟩
theorem cellS70_2 {W : World} {g : Nat} {A0 : Option Addr} {c0 : Nat} {f0 : List Int} {f1 : Int} {f2 : Int} (h : W.heap[g]? = some (.cells #[.slice A0 f0.length c0, .int .i64 f1, .int .u64 f2] 70 (0, 0))) : W.cell? ⟨g, 2, none⟩ = some (.int .u64 f2) := (blk_cell h 2).trans rfl
theorem IsS70.set_2 {w0 W : World} {g : Nat} {f0 : List Int} {f1 : Int} {f2 : Int} (h : IsS70 w0 W g f0 f1 f2) (x : Int) : IsS70 w0 (W.setCell ⟨g, 2, none⟩ (.int .u64 x)) g f0 f1 x := by
  obtain ⟨A0, c0, hb, hg, hr0⟩ := h
  exact ⟨A0, c0, by simpa using blk_set hb 2 (.int .u64 x), hg, hr0⟩
/-! ### spec_l1Cur_next: function 70 -/
def spec_l1Cur_next.f (s0_0 : List Int) (s0_1 : Int) (s0_2 : Int) : Option (Int × Int × Int) := if s0_1 < (s0_0.length : Int) then (if 0 ≤ s0_1 then (if (wrap64 (s0_1 + 1)) ≤ (s0_0.length : Int) then (some (wrap64 (rd s0_0 s0_1), wrap64 (s0_1 + 1), IntKind.u64.wrap ((IntKind.u64.wrap ((IntKind.u64.wrap (s0_2 * 6364136223846793005)) + (IntKind.u64.wrap (wrap64 (rd s0_0 s0_1))))) + 102323))) else (some (wrap64 (Go.bits .and .u64 ((IntKind.u64.wrap ((IntKind.u64.wrap ((IntKind.u64.wrap (s0_2 * 6364136223846793005)) + (IntKind.u64.wrap (wrap64 (rd s0_0 s0_1))))) + 102323)) / 1099511627776) 255), wrap64 (s0_1 + 1), IntKind.u64.wrap ((IntKind.u64.wrap ((IntKind.u64.wrap (s0_2 * 6364136223846793005)) + (IntKind.u64.wrap (wrap64 (rd s0_0 s0_1))))) + 102323)))) else (none)) else (if (wrap64 (s0_1 + 1)) ≤ (s0_0.length : Int) then (some (0, wrap64 (s0_1 + 1), IntKind.u64.wrap ((IntKind.u64.wrap ((IntKind.u64.wrap (s0_2 * 6364136223846793005)) + 0)) + 102323))) else (some (wrap64 (Go.bits .and .u64 ((IntKind.u64.wrap ((IntKind.u64.wrap ((IntKind.u64.wrap (s0_2 * 6364136223846793005)) + 0)) + 102323)) / 1099511627776) 255), wrap64 (s0_1 + 1), IntKind.u64.wrap ((IntKind.u64.wrap ((IntKind.u64.wrap (s0_2 * 6364136223846793005)) + 0)) + 102323))))
set_option maxHeartbeats 8000000 in
set_option maxRecDepth 100000 in
theorem spec_l1Cur_next.calls (g : Nat) (s0_0 : List Int) (s0_1 : Int) (s0_2 : Int) (r1 : Int) (r2 : Int) (r3 : Int) (w0 w : World) (hI : IsS70 w0 w g s0_0 s0_1 s0_2) (hB : Below w0.heap.size w0 w) (h : spec_l1Cur_next.f s0_0 s0_1 s0_2 = some (r1, r2, r3)) :
    Calls Tryd.prog 70 #[.pointer (some ⟨g, 0, none⟩)] w fun e w' => e = .returned (.int .i64 r1) ∧ IsS70 w0 w' g s0_0 r2 r3 ∧ Below w0.heap.size w0 w' ∧ KeepBut w w' g none := by
  have HI0 := Aside0.mk hI
  have HK := Aside0.mk (KeepBut.refl w g none)
  have HL := Aside0.mk hB.size
  clear hI
  have HW0 := Aside0.mk hB.size
  have HB := Aside0.mk hB
  clear hB
  unfold spec_l1Cur_next.f at h
  have H := h
  clear h
  by_cases c2 : s0_1 < (s0_0.length : Int)
  rotate_left
  · rw [if_neg c2] at H
    have c2b0 := decide_eq_false c2
    clear c2
    by_cases c7 : (wrap64 (s0_1 + 1)) ≤ (s0_0.length : Int)
    · rw [if_pos c7] at H
      have c7b0 := decide_eq_true c7
      clear c7
      simp only [Option.some.injEq, Prod.mk.injEq] at H
      obtain ⟨rfl, rfl, rfl⟩ := H
      obtain ⟨ASz8_0, cSz8_0, HGz8, hgz8, HSz8_0⟩ := HI0.out
      have hcz8_0 := cellS70_0 HGz8
      have hcz8_1 := cellS70_1 HGz8
      have hcz8_2 := cellS70_2 HGz8
      have hfz8_1 := blk_frozen HGz8 1
      have hfz8_2 := blk_frozen HGz8 2
      clear HGz8 hgz8
      go_enter Tryd.func70, Tryd.ntmps70
      go_wp2
      repeat (go_quiet (fail); try go_wp2)
      go_ret
      (try simp only [Int.add_zero])
      exact ⟨zz7, zz45, zz46, zz23⟩
    rw [if_neg c7] at H
    have c7b0 := decide_eq_false c7
    clear c7
    simp only [Option.some.injEq, Prod.mk.injEq] at H
    obtain ⟨rfl, rfl, rfl⟩ := H
    obtain ⟨ASz9_0, cSz9_0, HGz9, hgz9, HSz9_0⟩ := HI0.out
    have hcz9_0 := cellS70_0 HGz9
    have hcz9_1 := cellS70_1 HGz9
    have hcz9_2 := cellS70_2 HGz9
    have hfz9_1 := blk_frozen HGz9 1
    have hfz9_2 := blk_frozen HGz9 2
    clear HGz9 hgz9
    go_enter Tryd.func70, Tryd.ntmps70
    go_wp2
    repeat (go_quiet (fail); try go_wp2)
    go_ret
    (try simp only [Int.add_zero])
    exact ⟨zz7, zz45, zz46, zz23⟩
  rw [if_pos c2] at H
  have c2b0 := decide_eq_true c2
  clear c2
  by_cases c3 : 0 ≤ s0_1
  rotate_left
  · rw [if_neg c3] at H
    exact absurd H (by simp)
  rw [if_pos c3] at H
  have c3b0 := decide_eq_true c3
  clear c3
  by_cases c4 : (wrap64 (s0_1 + 1)) ≤ (s0_0.length : Int)
  · rw [if_pos c4] at H
    have c4b0 := decide_eq_true c4
    clear c4
    simp only [Option.some.injEq, Prod.mk.injEq] at H
    obtain ⟨rfl, rfl, rfl⟩ := H
    obtain ⟨ASz5_0, cSz5_0, HGz5, hgz5, HSz5_0⟩ := HI0.out
    have hcz5_0 := cellS70_0 HGz5
    have hcz5_1 := cellS70_1 HGz5
    have hcz5_2 := cellS70_2 HGz5
    have hfz5_1 := blk_frozen HGz5 1
    have hfz5_2 := blk_frozen HGz5 2
    clear HGz5 hgz5
    have p361 : 0 ≤ (s0_1 : Int) := of_decide_eq_true zz4
    have q361 : s0_1 < (s0_0.length : Int) := of_decide_eq_true zz4
    obtain ⟨ad361, e361, hx361_0⟩ := Kd.at_int HSz5_0 s0_1 p361 q361
    cases e361
    replace hx361_0 := pw_cell_below HB.out hx361_0
    replace p361 := eq_true p361
    replace q361 := eq_true q361
    go_enter Tryd.func70, Tryd.ntmps70
    go_wp2
    repeat (go_quiet (fail); try go_wp2)
    go_ret
    (try simp only [Int.add_zero])
    exact ⟨zz7, zz45, zz46, zz23⟩
  rw [if_neg c4] at H
  have c4b0 := decide_eq_false c4
  clear c4
  simp only [Option.some.injEq, Prod.mk.injEq] at H
  obtain ⟨rfl, rfl, rfl⟩ := H
  obtain ⟨ASz6_0, cSz6_0, HGz6, hgz6, HSz6_0⟩ := HI0.out
  have hcz6_0 := cellS70_0 HGz6
  have hcz6_1 := cellS70_1 HGz6
  have hcz6_2 := cellS70_2 HGz6
  have hfz6_1 := blk_frozen HGz6 1
  have hfz6_2 := blk_frozen HGz6 2
  clear HGz6 hgz6
  have p361 : 0 ≤ (s0_1 : Int) := of_decide_eq_true zz4
  have q361 : s0_1 < (s0_0.length : Int) := of_decide_eq_true zz4
  obtain ⟨ad361, e361, hx361_0⟩ := Kd.at_int HSz6_0 s0_1 p361 q361
  cases e361
  replace hx361_0 := pw_cell_below HB.out hx361_0
  replace p361 := eq_true p361
  replace q361 := eq_true q361
  go_enter Tryd.func70, Tryd.ntmps70
  go_wp2
  repeat (go_quiet (fail); try go_wp2)
  go_ret
  (try simp only [Int.add_zero])
  exact ⟨zz7, zz45, zz46, zz23⟩

end

section
attribute [local go_sem high] run_add_cat run_slice_cat run_slice_cat_h run_slice_cat_l run_slice_cat_all
/-! ### spec_l1Cur_pick: function 54 -/
def spec_l1Cur_pick.f (s0_0 : List Int) (s0_1 : Int) (s0_2 : Int) (a1 : Int) : Option (Int × Int × Int) := if a1 ≤ 1 then (some (0, s0_1, s0_2)) else ((spec_l1Cur_next.f s0_0 s0_1 s0_2).bind fun bt362 => (if a1 > 200 then ((spec_l1Cur_next.f s0_0 bt362.2.1 bt362.2.2).bind fun bt365 => (if a1 = 0 then (none) else (some (Int.tmod (wrap64 ((wrap64 (bt362.1 * 256)) + bt365.1)) a1, bt365.2.1, bt365.2.2)))) else (if a1 = 0 then (none) else (some (Int.tmod bt362.1 a1, bt362.2.1, bt362.2.2)))))
set_option maxHeartbeats 8000000 in
set_option maxRecDepth 100000 in
theorem spec_l1Cur_pick.calls (g : Nat) (s0_0 : List Int) (s0_1 : Int) (s0_2 : Int) (a1 : Int) (r1 : Int) (r2 : Int) (r3 : Int) (w0 w : World) (hI : IsS70 w0 w g s0_0 s0_1 s0_2) (hB : Below w0.heap.size w0 w) (h : spec_l1Cur_pick.f s0_0 s0_1 s0_2 a1 = some (r1, r2, r3)) :
    Calls Tryd.prog 54 #[.pointer (some ⟨g, 0, none⟩), .int .i64 a1] w fun e w' => e = .returned (.int .i64 r1) ∧ IsS70 w0 w' g s0_0 r2 r3 ∧ Below w0.heap.size w0 w' ∧ KeepBut w w' g none := by
  have HI0 := Aside0.mk hI
  have HK := Aside0.mk (KeepBut.refl w g none)
  have HL := Aside0.mk hB.size
  clear hI
  have HW0 := Aside0.mk hB.size
  have HB := Aside0.mk hB
  clear hB
  unfold spec_l1Cur_pick.f at h
  have H := h
  clear h
  by_cases c3 : a1 ≤ 1
  · rw [if_pos c3] at H
    have c3b0 := decide_eq_true c3
    clear c3
    simp only [Option.some.injEq, Prod.mk.injEq] at H
    obtain ⟨rfl, rfl, rfl⟩ := H
    go_enter Tryd.func54, Tryd.ntmps54
    go_wp2
    go_ret
    exact ⟨zz7, zz45, zz46, zz23⟩
  rw [if_neg c3] at H
  have c3b0 := decide_eq_false c3
  clear c3
  replace H := Option.bind_eq_some_iff.mp H
  obtain ⟨⟨t362, t363, t364⟩, A40, H⟩ := H
  (try dsimp only at H)
  have A4 := Aside0.mk A40
  clear A40
  by_cases c5 : a1 > 200
  rotate_left
  · rw [if_neg c5] at H
    have c5b0 := decide_eq_false c5
    clear c5
    by_cases c10 : a1 = 0
    · rw [if_pos c10] at H
      exact absurd H (by simp)
    rw [if_neg c10] at H
    have c10b0 := beq_eq_false_iff_ne.mpr c10
    have c10b1 := bne_iff_ne.mpr c10
    simp only [Option.some.injEq, Prod.mk.injEq] at H
    obtain ⟨rfl, rfl, rfl⟩ := H
    go_enter Tryd.func54, Tryd.ntmps54
    go_wp2_with (first | ((with_reducible refine gate_callee (f := 70) rfl ?_); refine qcall 9 Tryd.func70 rfl #[.pointer (some ⟨g, 0, none⟩)] ?_; (with_reducible refine (spec_l1Cur_next.calls g s0_0 s0_1 s0_2 t362 t363 t364 w0 _ ?side1 ?side2 A4.out).mono ?_); (case side1 => exact zz45); (case side2 => exact zz46); rintro e w11 ⟨rfl, hi, hb, hk⟩; refine ⟨_, rfl, ?_⟩; refine qs3 (KeepBut.trans zz23 hk (.inl rfl)) (hb) (hi) ?_; clear HK HB HI0; intro HK HB HI0; (try clear hb); (try clear hb2); (try clear hk); (try clear hi)))
    go_ret
    exact ⟨zz7, zz45, zz46, zz23⟩
  rw [if_pos c5] at H
  have c5b0 := decide_eq_true c5
  clear c5
  replace H := Option.bind_eq_some_iff.mp H
  obtain ⟨⟨t365, t366, t367⟩, A60, H⟩ := H
  (try dsimp only at H)
  have A6 := Aside0.mk A60
  clear A60
  by_cases c7 : a1 = 0
  · rw [if_pos c7] at H
    exact absurd H (by simp)
  rw [if_neg c7] at H
  have c7b0 := beq_eq_false_iff_ne.mpr c7
  have c7b1 := bne_iff_ne.mpr c7
  simp only [Option.some.injEq, Prod.mk.injEq] at H
  obtain ⟨rfl, rfl, rfl⟩ := H
  go_enter Tryd.func54, Tryd.ntmps54
  go_wp2_with (first | ((with_reducible refine gate_callee (f := 70) rfl ?_); refine qcall 9 Tryd.func70 rfl #[.pointer (some ⟨g, 0, none⟩)] ?_; (with_reducible refine (spec_l1Cur_next.calls g s0_0 s0_1 s0_2 t362 t363 t364 w0 _ ?side1 ?side2 A4.out).mono ?_); (case side1 => exact zz45); (case side2 => exact zz46); rintro e w8 ⟨rfl, hi, hb, hk⟩; refine ⟨_, rfl, ?_⟩; refine qs3 (KeepBut.trans zz23 hk (.inl rfl)) (hb) (hi) ?_; clear HK HB HI0; intro HK HB HI0; (try clear hb); (try clear hb2); (try clear hk); (try clear hi)) | ((with_reducible refine gate_callee (f := 70) rfl ?_); refine qcall 15 Tryd.func70 rfl #[.pointer (some ⟨g, 0, none⟩)] ?_; (with_reducible refine (spec_l1Cur_next.calls g s0_0 t363 t364 t365 t366 t367 w0 _ ?side1 ?side2 A6.out).mono ?_); (case side1 => exact zz45); (case side2 => exact zz46); rintro e w9 ⟨rfl, hi, hb, hk⟩; refine ⟨_, rfl, ?_⟩; refine qs3 (KeepBut.trans zz23 hk (.inl rfl)) (hb) (hi) ?_; clear HK HB HI0; intro HK HB HI0; (try clear hb); (try clear hb2); (try clear hk); (try clear hi)))
  go_ret
  exact ⟨zz7, zz45, zz46, zz23⟩

end

section
attribute [local go_sem high] run_add_cat run_slice_cat run_slice_cat_h run_slice_cat_l run_slice_cat_all
/-! ### spec_l1Cur_among: function 49 -/
end

section
attribute [local go_sem high] run_add_cat run_slice_cat run_slice_cat_h run_slice_cat_l run_slice_cat_all
/-! ### spec_l1Cur_of: function 67 -/
def spec_l1Cur_of.f (s0_0 : List Int) (s0_1 : Int) (s0_2 : Int) (l1 : List ByteArray) : Option (ByteArray × Int × Int) := (spec_l1Cur_pick.f s0_0 s0_1 s0_2 (l1.length : Int)).bind fun bt372 => (if 0 ≤ bt372.1 then (if bt372.1 < (l1.length : Int) then (some (rdOf ByteArray.empty l1 bt372.1, bt372.2.1, bt372.2.2)) else (none)) else (none))
set_option maxHeartbeats 8000000 in
set_option maxRecDepth 100000 in
theorem spec_l1Cur_of.calls (g : Nat) (s0_0 : List Int) (s0_1 : Int) (s0_2 : Int) (A1 : Option Addr) (c1 : Nat) (l1 : List ByteArray) (r1 : ByteArray) (r2 : Int) (r3 : Int) (w0 w : World) (hI : IsS70 w0 w g s0_0 s0_1 s0_2) (hB : Below w0.heap.size w0 w) (hr1 : Kd.C Kd.string w A1 l1.length l1) (hc1 : l1.length ≤ c1) (hf1 : ∀ ad, A1 = some ad → 0 < l1.length → ad.block ≠ g) (h : spec_l1Cur_of.f s0_0 s0_1 s0_2 l1 = some (r1, r2, r3)) :
    Calls Tryd.prog 67 #[.pointer (some ⟨g, 0, none⟩), .slice A1 l1.length c1] w fun e w' => e = .returned (.string r1) ∧ IsS70 w0 w' g s0_0 r2 r3 ∧ Below w0.heap.size w0 w' ∧ KeepBut w w' g none := by
  have HR1 := Aside0.mk hr1
  have HC1 := Aside0.mk hc1
  clear hr1 hc1
  have HI0 := Aside0.mk hI
  have HK := Aside0.mk (KeepBut.refl w g none)
  have HL := Aside0.mk hB.size
  clear hI
  have HW0 := Aside0.mk hB.size
  have HB := Aside0.mk hB
  clear hB
  unfold spec_l1Cur_of.f at h
  have H := h
  clear h
  replace H := Option.bind_eq_some_iff.mp H
  obtain ⟨⟨t372, t373, t374⟩, A30, H⟩ := H
  (try dsimp only at H)
  have A3 := Aside0.mk A30
  clear A30
  by_cases c4 : 0 ≤ t372
  rotate_left
  · rw [if_neg c4] at H
    exact absurd H (by simp)
  rw [if_pos c4] at H
  have c4b0 := decide_eq_true c4
  clear c4
  by_cases c5 : t372 < (l1.length : Int)
  rotate_left
  · rw [if_neg c5] at H
    exact absurd H (by simp)
  rw [if_pos c5] at H
  have c5b0 := decide_eq_true c5
  clear c5
  simp only [Option.some.injEq, Prod.mk.injEq] at H
  obtain ⟨rfl, rfl, rfl⟩ := H
  go_enter Tryd.func67, Tryd.ntmps67
  go_wp2_with (first | ((with_reducible refine gate_callee (f := 54) rfl ?_); refine qcall 9 Tryd.func54 rfl #[.pointer (some ⟨g, 0, none⟩), .int .i64 (l1.length : Int)] ?_; (with_reducible refine (spec_l1Cur_pick.calls g s0_0 s0_1 s0_2 (l1.length : Int) t372 t373 t374 w0 _ ?side1 ?side2 A3.out).mono ?_); (case side1 => exact zz45); (case side2 => exact zz46); rintro e w6 ⟨rfl, hi, hb, hk⟩; refine ⟨_, rfl, ?_⟩; refine qs3 (KeepBut.trans zz23 hk (.inl rfl)) (hb) (hi) ?_; clear HK HB HI0; intro HK HB HI0; (try clear hb); (try clear hb2); (try clear hk); (try clear hi); have p375 : 0 ≤ (t372 : Int) := of_decide_eq_true zz4; have q375 : t372 < (l1.length : Int) := of_decide_eq_true zz4; obtain ⟨ad375, e375, hx375_0⟩ := Kd.at_string HR1.out t372 p375 q375; cases e375; replace hx375_0 := keep_cell HK.out hx375_0 (by first | (rw [add_block]; exact hf1 _ rfl (by omega)) | exact hf1 _ rfl (by omega) | exact hf1 ad375 rfl (by omega)); replace p375 := eq_true p375; replace q375 := eq_true q375))
  go_ret
  exact ⟨zz7, zz45, zz46, zz23⟩

end

end Go.Proofs.YtokmidpeeejahaaDoor.G

-- Written by a program of this session (wip/pd.py), which calls the kit's print; externals' contracts by hand.
namespace Go.Proofs.YtokmidpeeejahaaDoor.G
open Go.Proofs.YtokmidpeeejahaaDoorQ
open Go.RowKit Go.Proofs.YtokmidpeeejahaaDoorW.PrintWords Go.Proofs.YtokmidpeeejahaaDoorW.PrintLast Go.Proofs.YtokmidpeeejahaaDoorW.PrintMore
attribute [local go_sem] max2_int min2_int max_two min_two max_three min_three max_four min_four   -- for this text's walks alone
set_option linter.unusedVariables false
set_option linter.unusedSimpArgs false

section
attribute [local go_sem high] run_add_cat run_slice_cat run_slice_cat_h run_slice_cat_l run_slice_cat_all
/-! ### spec_l1Cur_logRecord: function 50 -/
def spec_l1Cur_logRecord.f (s0_0 : List Int) (s0_1 : Int) (s0_2 : Int) : Option (ByteArray × ByteArray × Int × Int) := (spec_l1Cur_of.f s0_0 s0_1 s0_2 (([(⟨#[99, 111, 117, 110, 116]⟩ : ByteArray), (⟨#[115, 111, 114, 116, 32, 109, 101, 114, 103, 101]⟩ : ByteArray), (⟨#[120]⟩ : ByteArray), (⟨#[115, 101, 108, 101, 99, 116, 32, 50]⟩ : ByteArray), (⟨#[48, 32, 49]⟩ : ByteArray)] : List ByteArray))).bind fun bt380 => ((spec_l1Cur_of.f s0_0 bt380.2.1 bt380.2.2 (([(⟨#[]⟩ : ByteArray), (⟨#[51]⟩ : ByteArray), (⟨#[63]⟩ : ByteArray), (⟨#[97, 64, 98]⟩ : ByteArray), (⟨#[51, 32, 49, 32, 50]⟩ : ByteArray)] : List ByteArray))).bind fun bt386 => ((spec_l1Cur_pick.f s0_0 bt386.2.1 bt386.2.2 24).bind fun bt390 => (if bt390.1 = 0 then (if 3 ≤ 281474976710656 then ((spec_l1Cur_of.f s0_0 bt390.2.1 bt390.2.2 (([(⟨#[]⟩ : ByteArray), (⟨#[97, 64, 98]⟩ : ByteArray), (⟨#[97, 35]⟩ : ByteArray), (⟨#[10]⟩ : ByteArray), strOfNums (List.replicate 3 0)] : List ByteArray))).bind fun bt399 => (some (bt399.1, bt386.1, bt399.2.1, bt399.2.2))) else (none)) else (if bt390.1 = 1 then ((spec_l1Cur_of.f s0_0 bt390.2.1 bt390.2.2 (([(⟨#[35]⟩ : ByteArray), (⟨#[10]⟩ : ByteArray), (⟨#[127]⟩ : ByteArray)] : List ByteArray))).bind fun bt405 => (some (bt380.1, bt405.1, bt405.2.1, bt405.2.2))) else (some (bt380.1, bt386.1, bt390.2.1, bt390.2.2))))))
set_option maxHeartbeats 8000000 in
set_option maxRecDepth 100000 in
theorem spec_l1Cur_logRecord.calls (g : Nat) (s0_0 : List Int) (s0_1 : Int) (s0_2 : Int) (r1 : ByteArray) (r2 : ByteArray) (r3 : Int) (r4 : Int) (w0 w : World) (hI : IsS70 w0 w g s0_0 s0_1 s0_2) (hB : Below w0.heap.size w0 w) (h : spec_l1Cur_logRecord.f s0_0 s0_1 s0_2 = some (r1, r2, r3, r4)) :
    Calls Tryd.prog 50 #[.pointer (some ⟨g, 0, none⟩)] w fun e w' => e = .returned (.agg #[.string r1, .string r2]) ∧ IsS70 w0 w' g s0_0 r3 r4 ∧ Below w0.heap.size w0 w' ∧ KeepBut w w' g none := by
  have hu40 := Tryd.underlying40
  have HI0 := Aside0.mk hI
  have HK := Aside0.mk (KeepBut.refl w g none)
  have HL := Aside0.mk hB.size
  clear hI
  have HW0 := Aside0.mk hB.size
  have HB := Aside0.mk hB
  clear hB
  unfold spec_l1Cur_logRecord.f at h
  have H := h
  clear h
  obtain ⟨y377, hy377⟩ : ∃ y_ : List ByteArray, y_ = (([(⟨#[99, 111, 117, 110, 116]⟩ : ByteArray), (⟨#[115, 111, 114, 116, 32, 109, 101, 114, 103, 101]⟩ : ByteArray), (⟨#[120]⟩ : ByteArray), (⟨#[115, 101, 108, 101, 99, 116, 32, 50]⟩ : ByteArray), (⟨#[48, 32, 49]⟩ : ByteArray)] : List ByteArray)) := ⟨_, rfl⟩
  replace H : ((spec_l1Cur_of.f s0_0 s0_1 s0_2 y377).bind fun bt380 => ((spec_l1Cur_of.f s0_0 bt380.2.1 bt380.2.2 (([(⟨#[]⟩ : ByteArray), (⟨#[51]⟩ : ByteArray), (⟨#[63]⟩ : ByteArray), (⟨#[97, 64, 98]⟩ : ByteArray), (⟨#[51, 32, 49, 32, 50]⟩ : ByteArray)] : List ByteArray))).bind fun bt386 => ((spec_l1Cur_pick.f s0_0 bt386.2.1 bt386.2.2 24).bind fun bt390 => (if bt390.1 = 0 then (if 3 ≤ 281474976710656 then ((spec_l1Cur_of.f s0_0 bt390.2.1 bt390.2.2 (([(⟨#[]⟩ : ByteArray), (⟨#[97, 64, 98]⟩ : ByteArray), (⟨#[97, 35]⟩ : ByteArray), (⟨#[10]⟩ : ByteArray), strOfNums (List.replicate 3 0)] : List ByteArray))).bind fun bt399 => (some (bt399.1, bt386.1, bt399.2.1, bt399.2.2))) else (none)) else (if bt390.1 = 1 then ((spec_l1Cur_of.f s0_0 bt390.2.1 bt390.2.2 (([(⟨#[35]⟩ : ByteArray), (⟨#[10]⟩ : ByteArray), (⟨#[127]⟩ : ByteArray)] : List ByteArray))).bind fun bt405 => (some (bt380.1, bt405.1, bt405.2.1, bt405.2.2))) else (some (bt380.1, bt386.1, bt390.2.1, bt390.2.2))))))) = some (r1, r2, r3, r4) := by first | (rw [hy377]; with_reducible exact H) | (have H2_ := (Option.bind_some _ _).symm.trans H; rw [hy377]; with_reducible exact H2_) | (have H2_ := (Option.bind_some _ _).symm.trans H; with_reducible exact H2_) | with_reducible exact H | (rw [hy377]; exact H) | exact H
  have Ny377 := Aside0.mk hy377
  clear hy377
  replace H := Option.bind_eq_some_iff.mp H
  obtain ⟨⟨t380, t381, t382⟩, A20, H⟩ := H
  (try dsimp only at H)
  have A2 := Aside0.mk A20
  clear A20
  obtain ⟨y383, hy383⟩ : ∃ y_ : List ByteArray, y_ = (([(⟨#[]⟩ : ByteArray), (⟨#[51]⟩ : ByteArray), (⟨#[63]⟩ : ByteArray), (⟨#[97, 64, 98]⟩ : ByteArray), (⟨#[51, 32, 49, 32, 50]⟩ : ByteArray)] : List ByteArray)) := ⟨_, rfl⟩
  replace H : ((spec_l1Cur_of.f s0_0 t381 t382 y383).bind fun bt386 => ((spec_l1Cur_pick.f s0_0 bt386.2.1 bt386.2.2 24).bind fun bt390 => (if bt390.1 = 0 then (if 3 ≤ 281474976710656 then ((spec_l1Cur_of.f s0_0 bt390.2.1 bt390.2.2 (([(⟨#[]⟩ : ByteArray), (⟨#[97, 64, 98]⟩ : ByteArray), (⟨#[97, 35]⟩ : ByteArray), (⟨#[10]⟩ : ByteArray), strOfNums (List.replicate 3 0)] : List ByteArray))).bind fun bt399 => (some (bt399.1, bt386.1, bt399.2.1, bt399.2.2))) else (none)) else (if bt390.1 = 1 then ((spec_l1Cur_of.f s0_0 bt390.2.1 bt390.2.2 (([(⟨#[35]⟩ : ByteArray), (⟨#[10]⟩ : ByteArray), (⟨#[127]⟩ : ByteArray)] : List ByteArray))).bind fun bt405 => (some (t380, bt405.1, bt405.2.1, bt405.2.2))) else (some (t380, bt386.1, bt390.2.1, bt390.2.2)))))) = some (r1, r2, r3, r4) := by first | (rw [hy383]; with_reducible exact H) | (have H2_ := (Option.bind_some _ _).symm.trans H; rw [hy383]; with_reducible exact H2_) | (have H2_ := (Option.bind_some _ _).symm.trans H; with_reducible exact H2_) | with_reducible exact H | (rw [hy383]; exact H) | exact H
  have Ny383 := Aside0.mk hy383
  clear hy383
  replace H := Option.bind_eq_some_iff.mp H
  obtain ⟨⟨t386, t387, t388⟩, A30, H⟩ := H
  (try dsimp only at H)
  have A3 := Aside0.mk A30
  clear A30
  replace H := Option.bind_eq_some_iff.mp H
  obtain ⟨⟨t390, t391, t392⟩, A40, H⟩ := H
  (try dsimp only at H)
  have A4 := Aside0.mk A40
  clear A40
  by_cases c5 : t390 = 0
  · rw [if_pos c5] at H
    have c5b0 := beq_iff_eq.mpr c5
    have c5b1 := bne_eq_false_iff_eq.mpr c5
    clear c5
    by_cases c6 : 3 ≤ 281474976710656
    rotate_left
    · rw [if_neg c6] at H
      exact absurd H (by simp)
    rw [if_pos c6] at H
    have c6b0 := eq_true c6
    have c6b1 := decide_eq_true c6
    clear c6
    obtain ⟨y393, hy393⟩ : ∃ y_ : List Int, y_ = (List.replicate 3 0) := ⟨_, rfl⟩
    replace H : ((spec_l1Cur_of.f s0_0 t391 t392 (([(⟨#[]⟩ : ByteArray), (⟨#[97, 64, 98]⟩ : ByteArray), (⟨#[97, 35]⟩ : ByteArray), (⟨#[10]⟩ : ByteArray), strOfNums y393] : List ByteArray))).bind fun bt399 => (some (bt399.1, t386, bt399.2.1, bt399.2.2))) = some (r1, r2, r3, r4) := by first | (rw [hy393]; with_reducible exact H) | (have H2_ := (Option.bind_some _ _).symm.trans H; rw [hy393]; with_reducible exact H2_) | (have H2_ := (Option.bind_some _ _).symm.trans H; with_reducible exact H2_) | with_reducible exact H | (rw [hy393]; exact H) | exact H
    have Ny393 := Aside0.mk hy393
    clear hy393
    obtain ⟨y396, hy396⟩ : ∃ y_ : List ByteArray, y_ = (([(⟨#[]⟩ : ByteArray), (⟨#[97, 64, 98]⟩ : ByteArray), (⟨#[97, 35]⟩ : ByteArray), (⟨#[10]⟩ : ByteArray), strOfNums y393] : List ByteArray)) := ⟨_, rfl⟩
    replace H : ((spec_l1Cur_of.f s0_0 t391 t392 y396).bind fun bt399 => (some (bt399.1, t386, bt399.2.1, bt399.2.2))) = some (r1, r2, r3, r4) := by first | (rw [hy396]; with_reducible exact H) | (have H2_ := (Option.bind_some _ _).symm.trans H; rw [hy396]; with_reducible exact H2_) | (have H2_ := (Option.bind_some _ _).symm.trans H; with_reducible exact H2_) | with_reducible exact H | (rw [hy396]; exact H) | exact H
    have Ny396 := Aside0.mk hy396
    clear hy396
    replace H := Option.bind_eq_some_iff.mp H
    obtain ⟨⟨t399, t400, t401⟩, A70, H⟩ := H
    (try dsimp only at H)
    have A7 := Aside0.mk A70
    clear A70
    simp only [Option.some.injEq, Prod.mk.injEq] at H
    obtain ⟨rfl, rfl, rfl, rfl⟩ := H
    go_enter Tryd.func50, Tryd.ntmps50
    go_wp2_with (first | ((with_reducible refine gate_dst (N := 2) rfl ?_); refine qbox (N := 2) (cs := #[.string (⟨#[]⟩ : ByteArray), .string (⟨#[]⟩ : ByteArray)]) (t := 40) ?_; intro gb376 hg w8 hbox hb; refine qs8 (IsS70.below zz45 hb) (KeepBut.trans zz23 (KeepBut.of_below hb g none) (.inl rfl)) (below_step zz46 hb) (hbox) ((zz120 : w.heap.size ≤ gb376)) ((Nat.le_trans HW0.out (zz120 : w.heap.size ≤ gb376) : w0.heap.size ≤ gb376)) ((zz123 : g ≠ gb376)) ((zz124 : gb376 ≠ g)) ?_; clear HI0 HK HB; intro HI0 HK HB BK376 GW376 GE376 NB0_376 NB376_0; clear hb hbox hg) | ((with_reducible refine gate_dst (N := 5) rfl ?_); refine Kd.R_lit Kd.string _ 9 ?hg (N := 5) ?hd (xs := ([(⟨#[99, 111, 117, 110, 116]⟩ : ByteArray), (⟨#[115, 111, 114, 116, 32, 109, 101, 114, 103, 101]⟩ : ByteArray), (⟨#[120]⟩ : ByteArray), (⟨#[115, 101, 108, 101, 99, 116, 32, 50]⟩ : ByteArray), (⟨#[48, 32, 49]⟩ : ByteArray)] : List ByteArray)) (inner := [.string (⟨#[99, 111, 117, 110, 116]⟩ : ByteArray), .string (⟨#[115, 111, 114, 116, 32, 109, 101, 114, 103, 101]⟩ : ByteArray), .string (⟨#[120]⟩ : ByteArray), .string (⟨#[115, 101, 108, 101, 99, 116, 32, 50]⟩ : ByteArray), .string (⟨#[48, 32, 49]⟩ : ByteArray)]) (ok := fun _ => True) (okp := fun _ => True) ?hr ?hp (fun _ hk => hk) trivial (Below.refl _ _) (Nat.le_refl _) (by simp) ?_; (case hd => rfl); (case hg => rfl); (case hr => exact zz2); (case hp => exact zz117); intro v378 w9 ho10 hb hg_ hnew_; clear hg_ hnew_; (first | rw [← Ny377.out] at ho10 | (simp only [Int.reduceToNat] at ho10; rw [← Ny377.out] at ho10)); refine qs5 (Kd.R_lower ho10 (keep_size (w := w) (g := g) (row := none) zz49)) (IsS70.below zz62 hb) (blk_below (qb BK376.out) hb) (KeepBut.trans zz49 (KeepBut.of_below hb g none) (.inl rfl)) (below_step zz60 hb) ?_; clear HI0 BK376 HK HB; intro HO379 HI0 BK376 HK HB; clear hb ho10; obtain ⟨Ao11, co11, eo11⟩ := Kd.R_slice HO379.out; subst eo11) | ((with_reducible refine gate_callee (f := 67) rfl ?_); refine qcall 6 Tryd.func67 rfl #[.pointer (some ⟨g, 0, none⟩), .slice Ao11 y377.length co11] ?_; (with_reducible refine (spec_l1Cur_of.calls g s0_0 s0_1 s0_2 _ _ y377 t380 t381 t382 w0 _ ?side1 ?side2 ?side3 ?side4 ?side5 A2.out).mono ?_); (case side1 => exact zz62); (case side2 => exact zz60); (case side3 => exact zz47); (case side4 => exact (Kd.R_reads' HO379.out).2.1); (case side5 => exact far_slice (IsS70.own_ne HI0.out HO379.out (by decide))); rintro e w12 ⟨rfl, hi, hb, hk⟩; refine ⟨_, rfl, ?_⟩; refine qs5 (KeepBut.blk hk (qb BK376.out) NB376_0.out (by simp)) (Kd.R_mono (Kd.R_keep (IsS70.apart (show IsS70 w0 _ g s0_0 s0_1 s0_2 from zz62) (qr HO379.out) (by decide)) hk (fun _ h => h.2)) (fun _ h => h.1)) (KeepBut.trans zz49 hk (.inl rfl)) (hb) (hi) ?_; clear BK376 HO379 HK HB HI0; intro BK376 HO379 HK HB HI0; (try clear hb); (try clear hb2); (try clear hk); (try clear hi)) | ((with_reducible refine gate_dst (N := 8) rfl ?_); refine Kd.R_lit Kd.string _ 9 ?hg (N := 8) ?hd (xs := ([(⟨#[]⟩ : ByteArray), (⟨#[51]⟩ : ByteArray), (⟨#[63]⟩ : ByteArray), (⟨#[97, 64, 98]⟩ : ByteArray), (⟨#[51, 32, 49, 32, 50]⟩ : ByteArray)] : List ByteArray)) (inner := [.string (⟨#[]⟩ : ByteArray), .string (⟨#[51]⟩ : ByteArray), .string (⟨#[63]⟩ : ByteArray), .string (⟨#[97, 64, 98]⟩ : ByteArray), .string (⟨#[51, 32, 49, 32, 50]⟩ : ByteArray)]) (ok := fun _ => True) (okp := fun _ => True) ?hr ?hp (fun _ hk => hk) trivial (Below.refl _ _) (Nat.le_refl _) (by simp) ?_; (case hd => rfl); (case hg => rfl); (case hr => exact zz2); (case hp => exact zz109); intro v384 w13 ho14 hb hg_ hnew_; clear hg_ hnew_; (first | rw [← Ny383.out] at ho14 | (simp only [Int.reduceToNat] at ho14; rw [← Ny383.out] at ho14)); refine qs6 (Kd.R_elder' (qr HO379.out) (Kd.R_base ho14) hb) (Kd.R_lower (Kd.R_new' ho14 (Kd.R_lt (qr HO379.out))) (keep_size (w := w) (g := g) (row := none) zz49)) (IsS70.below zz62 hb) (blk_below (qb BK376.out) hb) (KeepBut.trans zz49 (KeepBut.of_below hb g none) (.inl rfl)) (below_step zz60 hb) ?_; clear HO379 HI0 BK376 HK HB; intro HO379 HO385 HI0 BK376 HK HB; clear hb ho14; obtain ⟨Ao15, co15, eo15⟩ := Kd.R_slice HO385.out; subst eo15) | ((with_reducible refine gate_callee (f := 67) rfl ?_); refine qcall 9 Tryd.func67 rfl #[.pointer (some ⟨g, 0, none⟩), .slice Ao15 y383.length co15] ?_; (with_reducible refine (spec_l1Cur_of.calls g s0_0 t381 t382 _ _ y383 t386 t387 t388 w0 _ ?side1 ?side2 ?side3 ?side4 ?side5 A3.out).mono ?_); (case side1 => exact zz62); (case side2 => exact zz60); (case side3 => exact zz48); (case side4 => exact (Kd.R_reads' HO385.out).2.1); (case side5 => exact far_slice (IsS70.own_ne HI0.out HO385.out (by decide))); rintro e w16 ⟨rfl, hi, hb, hk⟩; refine ⟨_, rfl, ?_⟩; refine qs6 (KeepBut.blk hk (qb BK376.out) NB376_0.out (by simp)) (Kd.R_mono (Kd.R_keep (IsS70.apart (show IsS70 w0 _ g s0_0 t381 t382 from zz62) (qr HO379.out) (by decide)) hk (fun _ h => h.2)) (fun _ h => h.1)) (Kd.R_mono (Kd.R_keep (IsS70.apart (show IsS70 w0 _ g s0_0 t381 t382 from zz62) (qr HO385.out) (by decide)) hk (fun _ h => h.2)) (fun _ h => h.1)) (KeepBut.trans zz49 hk (.inl rfl)) (hb) (hi) ?_; clear BK376 HO379 HO385 HK HB HI0; intro BK376 HO379 HO385 HK HB HI0; (try clear hb); (try clear hb2); (try clear hk); (try clear hi)) | ((with_reducible refine gate_dst (N := 3) rfl ?_); refine qbox (N := 3) (cs := #[.string (⟨#[]⟩ : ByteArray), .string (⟨#[]⟩ : ByteArray)]) (t := 40) ?_; intro gb389 hg w17 hbox hb; refine qs13 (Kd.R_below (qr HO379.out) hb) (Kd.R_below (qr HO385.out) hb) (IsS70.below zz62 hb) (blk_below (qb BK376.out) hb) (KeepBut.trans zz49 (KeepBut.of_below hb g none) (.inl rfl)) (below_step zz60 hb) (hbox) ((zz122 : w.heap.size ≤ gb389)) ((Nat.le_trans HW0.out (zz122 : w.heap.size ≤ gb389) : w0.heap.size ≤ gb389)) ((by rw [hg]; exact Nat.ne_of_lt (blk_lt (qb BK376.out)) : gb376 ≠ gb389)) ((by rw [hg]; exact Nat.ne_of_gt (blk_lt (qb BK376.out)) : gb389 ≠ gb376)) ((by rw [hg]; exact Nat.ne_of_lt (IsS70.lt (show IsS70 w0 _ g s0_0 t387 t388 from zz62)) : g ≠ gb389)) ((by rw [hg]; exact Nat.ne_of_gt (IsS70.lt (show IsS70 w0 _ g s0_0 t387 t388 from zz62)) : gb389 ≠ g)) ?_; clear HO379 HO385 HI0 BK376 HK HB; intro HO379 HO385 HI0 BK376 HK HB BK389 GW389 GE389 NB376_389 NB389_376 NB0_389 NB389_0; clear hb hbox hg; have hnb18 := NB389_376.out; have hnc18 := NB376_389.out; have hnb19 := NB389_0.out; have hnc19 := NB0_389.out; obtain ⟨hcz20_0, hcz20_1, hfz20_0, hfz20_1⟩ := qc2 BK389.out) | ((with_reducible refine gate_callee (f := 54) rfl ?_); refine qcall 12 Tryd.func54 rfl #[.pointer (some ⟨g, 0, none⟩), .int .i64 24] ?_; (with_reducible refine (spec_l1Cur_pick.calls g s0_0 t387 t388 24 t390 t391 t392 w0 _ ?side1 ?side2 A4.out).mono ?_); (case side1 => exact zz75); (case side2 => exact zz72); rintro e w21 ⟨rfl, hi, hb, hk⟩; refine ⟨_, rfl, ?_⟩; refine qs7 (KeepBut.blk hk (g' := gb376) (o := .cells #[.string (⟨#[]⟩ : ByteArray), .string (⟨#[]⟩ : ByteArray)] 40 (0, 0)) zz87 NB376_0.out (by simp)) (Kd.R_mono (Kd.R_keep (IsS70.apart (show IsS70 w0 _ g s0_0 t387 t388 from zz75) zz83 (by decide)) hk (fun _ h => h.2)) (fun _ h => h.1)) (Kd.R_mono (Kd.R_keep (IsS70.apart (show IsS70 w0 _ g s0_0 t387 t388 from zz75) zz84 (by decide)) hk (fun _ h => h.2)) (fun _ h => h.1)) (KeepBut.blk hk (g' := gb389) (o := .cells #[.string t380, .string t386] 40 (0, 0)) zz91 NB389_0.out (by simp)) (KeepBut.trans zz65 hk (.inl rfl)) (hb) (hi) ?_; clear BK376 HO379 HO385 BK389 HK HB HI0; intro BK376 HO379 HO385 BK389 HK HB HI0; (try clear hb); (try clear hb2); (try clear hk); (try clear hi)) | ((with_reducible refine gate_dst (N := 16) rfl ?_); refine Kd.R_make (Kd.int .u8) _ 5 rfl (N := 16) rfl 48 _ _ rfl 3 rfl rfl Tryd.underlying48 (.int .u8 0) 1 info5 rfl (by decide) (by omega) 0 (ok := fun _ => True) (okp := fun _ => True) rfl (fun _ hk => hk) trivial (by omega) (by omega) (Below.refl _ _) (Nat.le_refl _) ?_; intro v394 w22 ho23 hb hg_ hnew_; clear hg_ hnew_; (first | rw [← Ny393.out] at ho23 | (simp only [Int.reduceToNat] at ho23; rw [← Ny393.out] at ho23)); refine qs8 (Kd.R_below (qr HO379.out) hb) (Kd.R_below (qr HO385.out) hb) (Kd.R_lower ho23 (keep_size (w := w) (g := g) (row := none) zz65)) (IsS70.below zz75 hb) (blk_below (qb BK376.out) hb) (blk_below (qb BK389.out) hb) (KeepBut.trans zz65 (KeepBut.of_below hb g none) (.inl rfl)) (below_step zz72 hb) ?_; clear HO379 HO385 HI0 BK376 BK389 HK HB; intro HO379 HO385 HO395 HI0 BK376 BK389 HK HB; clear hb ho23; have hcv24 := own_string (P := Tryd.prog) Tryd.underlying48 Tryd.underlying5 Tryd.underlying9 (Kd.own_of_R HO395.out)) | ((with_reducible refine gate_dst (N := 18) rfl ?_); refine Kd.R_lit Kd.string _ 9 ?hg (N := 18) ?hd (xs := ([(⟨#[]⟩ : ByteArray), (⟨#[97, 64, 98]⟩ : ByteArray), (⟨#[97, 35]⟩ : ByteArray), (⟨#[10]⟩ : ByteArray), strOfNums y393] : List ByteArray)) (inner := [.string (⟨#[]⟩ : ByteArray), .string (⟨#[97, 64, 98]⟩ : ByteArray), .string (⟨#[97, 35]⟩ : ByteArray), .string (⟨#[10]⟩ : ByteArray), .string (strOfNums y393)]) (ok := fun _ => True) (okp := fun _ => True) ?hr ?hp (fun _ hk => hk) trivial (Below.refl _ _) (Nat.le_refl _) (by simp) ?_; (case hd => rfl); (case hg => rfl); (case hr => exact zz2); (case hp => exact (Reps.one (show Kd.M Kd.string _ _ _ (⟨#[]⟩ : ByteArray) [.string (⟨#[]⟩ : ByteArray)] from rfl) (Reps.one (show Kd.M Kd.string _ _ _ (⟨#[97, 64, 98]⟩ : ByteArray) [.string (⟨#[97, 64, 98]⟩ : ByteArray)] from rfl) (Reps.one (show Kd.M Kd.string _ _ _ (⟨#[97, 35]⟩ : ByteArray) [.string (⟨#[97, 35]⟩ : ByteArray)] from rfl) (Reps.one (show Kd.M Kd.string _ _ _ (⟨#[10]⟩ : ByteArray) [.string (⟨#[10]⟩ : ByteArray)] from rfl) (Reps.one (show Kd.M Kd.string _ _ _ (strOfNums y393) [.string (strOfNums y393)] from rfl) (Reps.none _ _))))))); intro v397 w25 ho26 hb hg_ hnew_; clear hg_ hnew_; (first | rw [← Ny396.out] at ho26 | (simp only [Int.reduceToNat] at ho26; rw [← Ny396.out] at ho26)); refine qs9 (Kd.R_elder' (qr HO379.out) (Kd.R_base ho26) hb) (Kd.R_elder' (qr HO385.out) (Kd.R_base ho26) hb) (Kd.R_below (qr HO395.out) hb) (Kd.R_lower (Kd.R_new' (Kd.R_new' ho26 (Kd.R_lt (qr HO379.out))) (Kd.R_lt (qr HO385.out))) (keep_size (w := w) (g := g) (row := none) zz65)) (IsS70.below zz75 hb) (blk_below (qb BK376.out) hb) (blk_below (qb BK389.out) hb) (KeepBut.trans zz65 (KeepBut.of_below hb g none) (.inl rfl)) (below_step zz72 hb) ?_; clear HO379 HO385 HO395 HI0 BK376 BK389 HK HB; intro HO379 HO385 HO395 HO398 HI0 BK376 BK389 HK HB; clear hb ho26; obtain ⟨Ao27, co27, eo27⟩ := Kd.R_slice HO398.out; subst eo27) | ((with_reducible refine gate_callee (f := 67) rfl ?_); refine qcall 19 Tryd.func67 rfl #[.pointer (some ⟨g, 0, none⟩), .slice Ao27 y396.length co27] ?_; (with_reducible refine (spec_l1Cur_of.calls g s0_0 t391 t392 _ _ y396 t399 t400 t401 w0 _ ?side1 ?side2 ?side3 ?side4 ?side5 A7.out).mono ?_); (case side1 => exact zz75); (case side2 => exact zz72); (case side3 => repeat (first | exact (Kd.R_reads' HO398.out).2.2 | (with_reducible refine Kd.C_alloc ?_ _) | (with_reducible refine Kd.C_drewN ?_ _) | (with_reducible refine Kd.C_drew ?_))); (case side4 => exact (Kd.R_reads' HO398.out).2.1); (case side5 => exact far_slice (IsS70.own_ne HI0.out HO398.out (by decide))); rintro e w28 ⟨rfl, hi, hb, hk⟩; refine ⟨_, rfl, ?_⟩; refine qs9 (KeepBut.blk hk (qb BK376.out) NB376_0.out (by simp)) (Kd.R_mono (Kd.R_keep (IsS70.apart (show IsS70 w0 _ g s0_0 t391 t392 from zz75) (qr HO379.out) (by decide)) hk (fun _ h => h.2)) (fun _ h => h.1)) (Kd.R_mono (Kd.R_keep (IsS70.apart (show IsS70 w0 _ g s0_0 t391 t392 from zz75) (qr HO385.out) (by decide)) hk (fun _ h => h.2)) (fun _ h => h.1)) (KeepBut.blk hk (qb BK389.out) NB389_0.out (by simp)) (Kd.R_mono (Kd.R_keep (IsS70.apart (show IsS70 w0 _ g s0_0 t391 t392 from zz75) (qr HO395.out) (by decide)) hk (fun _ h => h.2)) (fun _ h => h.1)) (Kd.R_mono (Kd.R_keep (IsS70.apart (show IsS70 w0 _ g s0_0 t391 t392 from zz75) (qr HO398.out) (by decide)) hk (fun _ h => h.2)) (fun _ h => h.1)) (KeepBut.trans zz65 hk (.inl rfl)) (hb) (hi) ?_; clear BK376 HO379 HO385 BK389 HO395 HO398 HK HB HI0; intro BK376 HO379 HO385 BK389 HO395 HO398 HK HB HI0; (try clear hb); (try clear hb2); (try clear hk); (try clear hi); obtain ⟨hcz29_0, hcz29_1, hfz29_0, hfz29_1⟩ := qc2 BK389.out; have hnb30 := NB376_0.out; have hnc30 := NB0_376.out; obtain ⟨hcz31_0, hcz31_1, hfz31_0, hfz31_1⟩ := qc2 BK376.out))
    refine bodyPost_ret (results_cell_row rfl _ _ gb376 40 #[.string t399, .string t386] (0, 0) _ rfl (by (with_reducible repeat (first | refine blk_drewN ?_ _ | refine blk_drew ?_ | refine blk_alloc ?_ _)); refine blk_put (cs := #[.string t399, .string (⟨#[]⟩ : ByteArray)]) ?_ 1 _ rfl; (with_reducible repeat (first | refine blk_drewN ?_ _ | refine blk_drew ?_ | refine blk_alloc ?_ _)); refine blk_put (cs := #[.string (⟨#[]⟩ : ByteArray), .string (⟨#[]⟩ : ByteArray)]) ?_ 0 _ rfl; (with_reducible repeat (first | refine blk_drewN ?_ _ | refine blk_drew ?_ | refine blk_alloc ?_ _)); refine blk_far ?_ NB376_389.out _; (with_reducible repeat (first | refine blk_drewN ?_ _ | refine blk_drew ?_ | refine blk_alloc ?_ _)); exact BK376.out) Tryd.underlying40 rfl (by kernel_rfl)) rfl ?_
    exact ⟨zz7, zz75, zz72, zz65⟩
  rw [if_neg c5] at H
  have c5b0 := beq_eq_false_iff_ne.mpr c5
  have c5b1 := bne_iff_ne.mpr c5
  by_cases c32 : t390 = 1
  rotate_left
  · rw [if_neg c32] at H
    have c32b0 := beq_eq_false_iff_ne.mpr c32
    have c32b1 := bne_iff_ne.mpr c32
    simp only [Option.some.injEq, Prod.mk.injEq] at H
    obtain ⟨rfl, rfl, rfl, rfl⟩ := H
    go_enter Tryd.func50, Tryd.ntmps50
    go_wp2_with (first | ((with_reducible refine gate_dst (N := 2) rfl ?_); refine qbox (N := 2) (cs := #[.string (⟨#[]⟩ : ByteArray), .string (⟨#[]⟩ : ByteArray)]) (t := 40) ?_; intro gb376 hg w55 hbox hb; refine qs8 (IsS70.below zz45 hb) (KeepBut.trans zz23 (KeepBut.of_below hb g none) (.inl rfl)) (below_step zz46 hb) (hbox) ((zz120 : w.heap.size ≤ gb376)) ((Nat.le_trans HW0.out (zz120 : w.heap.size ≤ gb376) : w0.heap.size ≤ gb376)) ((zz123 : g ≠ gb376)) ((zz124 : gb376 ≠ g)) ?_; clear HI0 HK HB; intro HI0 HK HB BK376 GW376 GE376 NB0_376 NB376_0; clear hb hbox hg) | ((with_reducible refine gate_dst (N := 5) rfl ?_); refine Kd.R_lit Kd.string _ 9 ?hg (N := 5) ?hd (xs := ([(⟨#[99, 111, 117, 110, 116]⟩ : ByteArray), (⟨#[115, 111, 114, 116, 32, 109, 101, 114, 103, 101]⟩ : ByteArray), (⟨#[120]⟩ : ByteArray), (⟨#[115, 101, 108, 101, 99, 116, 32, 50]⟩ : ByteArray), (⟨#[48, 32, 49]⟩ : ByteArray)] : List ByteArray)) (inner := [.string (⟨#[99, 111, 117, 110, 116]⟩ : ByteArray), .string (⟨#[115, 111, 114, 116, 32, 109, 101, 114, 103, 101]⟩ : ByteArray), .string (⟨#[120]⟩ : ByteArray), .string (⟨#[115, 101, 108, 101, 99, 116, 32, 50]⟩ : ByteArray), .string (⟨#[48, 32, 49]⟩ : ByteArray)]) (ok := fun _ => True) (okp := fun _ => True) ?hr ?hp (fun _ hk => hk) trivial (Below.refl _ _) (Nat.le_refl _) (by simp) ?_; (case hd => rfl); (case hg => rfl); (case hr => exact zz2); (case hp => exact zz117); intro v378 w56 ho57 hb hg_ hnew_; clear hg_ hnew_; (first | rw [← Ny377.out] at ho57 | (simp only [Int.reduceToNat] at ho57; rw [← Ny377.out] at ho57)); refine qs5 (Kd.R_lower ho57 (keep_size (w := w) (g := g) (row := none) zz49)) (IsS70.below zz62 hb) (blk_below (qb BK376.out) hb) (KeepBut.trans zz49 (KeepBut.of_below hb g none) (.inl rfl)) (below_step zz60 hb) ?_; clear HI0 BK376 HK HB; intro HO379 HI0 BK376 HK HB; clear hb ho57; obtain ⟨Ao58, co58, eo58⟩ := Kd.R_slice HO379.out; subst eo58) | ((with_reducible refine gate_callee (f := 67) rfl ?_); refine qcall 6 Tryd.func67 rfl #[.pointer (some ⟨g, 0, none⟩), .slice Ao58 y377.length co58] ?_; (with_reducible refine (spec_l1Cur_of.calls g s0_0 s0_1 s0_2 _ _ y377 t380 t381 t382 w0 _ ?side1 ?side2 ?side3 ?side4 ?side5 A2.out).mono ?_); (case side1 => exact zz62); (case side2 => exact zz60); (case side3 => exact zz47); (case side4 => exact (Kd.R_reads' HO379.out).2.1); (case side5 => exact far_slice (IsS70.own_ne HI0.out HO379.out (by decide))); rintro e w59 ⟨rfl, hi, hb, hk⟩; refine ⟨_, rfl, ?_⟩; refine qs5 (KeepBut.blk hk (qb BK376.out) NB376_0.out (by simp)) (Kd.R_mono (Kd.R_keep (IsS70.apart (show IsS70 w0 _ g s0_0 s0_1 s0_2 from zz62) (qr HO379.out) (by decide)) hk (fun _ h => h.2)) (fun _ h => h.1)) (KeepBut.trans zz49 hk (.inl rfl)) (hb) (hi) ?_; clear BK376 HO379 HK HB HI0; intro BK376 HO379 HK HB HI0; (try clear hb); (try clear hb2); (try clear hk); (try clear hi)) | ((with_reducible refine gate_dst (N := 8) rfl ?_); refine Kd.R_lit Kd.string _ 9 ?hg (N := 8) ?hd (xs := ([(⟨#[]⟩ : ByteArray), (⟨#[51]⟩ : ByteArray), (⟨#[63]⟩ : ByteArray), (⟨#[97, 64, 98]⟩ : ByteArray), (⟨#[51, 32, 49, 32, 50]⟩ : ByteArray)] : List ByteArray)) (inner := [.string (⟨#[]⟩ : ByteArray), .string (⟨#[51]⟩ : ByteArray), .string (⟨#[63]⟩ : ByteArray), .string (⟨#[97, 64, 98]⟩ : ByteArray), .string (⟨#[51, 32, 49, 32, 50]⟩ : ByteArray)]) (ok := fun _ => True) (okp := fun _ => True) ?hr ?hp (fun _ hk => hk) trivial (Below.refl _ _) (Nat.le_refl _) (by simp) ?_; (case hd => rfl); (case hg => rfl); (case hr => exact zz2); (case hp => exact zz109); intro v384 w60 ho61 hb hg_ hnew_; clear hg_ hnew_; (first | rw [← Ny383.out] at ho61 | (simp only [Int.reduceToNat] at ho61; rw [← Ny383.out] at ho61)); refine qs6 (Kd.R_elder' (qr HO379.out) (Kd.R_base ho61) hb) (Kd.R_lower (Kd.R_new' ho61 (Kd.R_lt (qr HO379.out))) (keep_size (w := w) (g := g) (row := none) zz49)) (IsS70.below zz62 hb) (blk_below (qb BK376.out) hb) (KeepBut.trans zz49 (KeepBut.of_below hb g none) (.inl rfl)) (below_step zz60 hb) ?_; clear HO379 HI0 BK376 HK HB; intro HO379 HO385 HI0 BK376 HK HB; clear hb ho61; obtain ⟨Ao62, co62, eo62⟩ := Kd.R_slice HO385.out; subst eo62) | ((with_reducible refine gate_callee (f := 67) rfl ?_); refine qcall 9 Tryd.func67 rfl #[.pointer (some ⟨g, 0, none⟩), .slice Ao62 y383.length co62] ?_; (with_reducible refine (spec_l1Cur_of.calls g s0_0 t381 t382 _ _ y383 t386 t387 t388 w0 _ ?side1 ?side2 ?side3 ?side4 ?side5 A3.out).mono ?_); (case side1 => exact zz62); (case side2 => exact zz60); (case side3 => exact zz48); (case side4 => exact (Kd.R_reads' HO385.out).2.1); (case side5 => exact far_slice (IsS70.own_ne HI0.out HO385.out (by decide))); rintro e w63 ⟨rfl, hi, hb, hk⟩; refine ⟨_, rfl, ?_⟩; refine qs6 (KeepBut.blk hk (qb BK376.out) NB376_0.out (by simp)) (Kd.R_mono (Kd.R_keep (IsS70.apart (show IsS70 w0 _ g s0_0 t381 t382 from zz62) (qr HO379.out) (by decide)) hk (fun _ h => h.2)) (fun _ h => h.1)) (Kd.R_mono (Kd.R_keep (IsS70.apart (show IsS70 w0 _ g s0_0 t381 t382 from zz62) (qr HO385.out) (by decide)) hk (fun _ h => h.2)) (fun _ h => h.1)) (KeepBut.trans zz49 hk (.inl rfl)) (hb) (hi) ?_; clear BK376 HO379 HO385 HK HB HI0; intro BK376 HO379 HO385 HK HB HI0; (try clear hb); (try clear hb2); (try clear hk); (try clear hi)) | ((with_reducible refine gate_dst (N := 3) rfl ?_); refine qbox (N := 3) (cs := #[.string (⟨#[]⟩ : ByteArray), .string (⟨#[]⟩ : ByteArray)]) (t := 40) ?_; intro gb389 hg w64 hbox hb; refine qs13 (Kd.R_below (qr HO379.out) hb) (Kd.R_below (qr HO385.out) hb) (IsS70.below zz62 hb) (blk_below (qb BK376.out) hb) (KeepBut.trans zz49 (KeepBut.of_below hb g none) (.inl rfl)) (below_step zz60 hb) (hbox) ((zz122 : w.heap.size ≤ gb389)) ((Nat.le_trans HW0.out (zz122 : w.heap.size ≤ gb389) : w0.heap.size ≤ gb389)) ((by rw [hg]; exact Nat.ne_of_lt (blk_lt (qb BK376.out)) : gb376 ≠ gb389)) ((by rw [hg]; exact Nat.ne_of_gt (blk_lt (qb BK376.out)) : gb389 ≠ gb376)) ((by rw [hg]; exact Nat.ne_of_lt (IsS70.lt (show IsS70 w0 _ g s0_0 t387 t388 from zz62)) : g ≠ gb389)) ((by rw [hg]; exact Nat.ne_of_gt (IsS70.lt (show IsS70 w0 _ g s0_0 t387 t388 from zz62)) : gb389 ≠ g)) ?_; clear HO379 HO385 HI0 BK376 HK HB; intro HO379 HO385 HI0 BK376 HK HB BK389 GW389 GE389 NB376_389 NB389_376 NB0_389 NB389_0; clear hb hbox hg; have hnb65 := NB389_376.out; have hnc65 := NB376_389.out; have hnb66 := NB389_0.out; have hnc66 := NB0_389.out; obtain ⟨hcz67_0, hcz67_1, hfz67_0, hfz67_1⟩ := qc2 BK389.out) | ((with_reducible refine gate_callee (f := 54) rfl ?_); refine qcall 12 Tryd.func54 rfl #[.pointer (some ⟨g, 0, none⟩), .int .i64 24] ?_; (with_reducible refine (spec_l1Cur_pick.calls g s0_0 t387 t388 24 t390 t391 t392 w0 _ ?side1 ?side2 A4.out).mono ?_); (case side1 => exact zz75); (case side2 => exact zz72); rintro e w68 ⟨rfl, hi, hb, hk⟩; refine ⟨_, rfl, ?_⟩; refine qs7 (KeepBut.blk hk (g' := gb376) (o := .cells #[.string (⟨#[]⟩ : ByteArray), .string (⟨#[]⟩ : ByteArray)] 40 (0, 0)) zz87 NB376_0.out (by simp)) (Kd.R_mono (Kd.R_keep (IsS70.apart (show IsS70 w0 _ g s0_0 t387 t388 from zz75) zz83 (by decide)) hk (fun _ h => h.2)) (fun _ h => h.1)) (Kd.R_mono (Kd.R_keep (IsS70.apart (show IsS70 w0 _ g s0_0 t387 t388 from zz75) zz84 (by decide)) hk (fun _ h => h.2)) (fun _ h => h.1)) (KeepBut.blk hk (g' := gb389) (o := .cells #[.string t380, .string t386] 40 (0, 0)) zz91 NB389_0.out (by simp)) (KeepBut.trans zz65 hk (.inl rfl)) (hb) (hi) ?_; clear BK376 HO379 HO385 BK389 HK HB HI0; intro BK376 HO379 HO385 BK389 HK HB HI0; (try clear hb); (try clear hb2); (try clear hk); (try clear hi); obtain ⟨hcz69_0, hcz69_1, hfz69_0, hfz69_1⟩ := qc2 BK389.out; have hnb70 := NB376_0.out; have hnc70 := NB0_376.out; obtain ⟨hcz71_0, hcz71_1, hfz71_0, hfz71_1⟩ := qc2 BK376.out))
    refine bodyPost_ret (results_cell_row rfl _ _ gb376 40 #[.string t380, .string t386] (0, 0) _ rfl (by (with_reducible repeat (first | refine blk_drewN ?_ _ | refine blk_drew ?_ | refine blk_alloc ?_ _)); refine blk_put (cs := #[.string t380, .string (⟨#[]⟩ : ByteArray)]) ?_ 1 _ rfl; (with_reducible repeat (first | refine blk_drewN ?_ _ | refine blk_drew ?_ | refine blk_alloc ?_ _)); refine blk_put (cs := #[.string (⟨#[]⟩ : ByteArray), .string (⟨#[]⟩ : ByteArray)]) ?_ 0 _ rfl; (with_reducible repeat (first | refine blk_drewN ?_ _ | refine blk_drew ?_ | refine blk_alloc ?_ _)); exact BK376.out) Tryd.underlying40 rfl (by kernel_rfl)) rfl ?_
    exact ⟨zz7, zz75, zz72, zz65⟩
  rw [if_pos c32] at H
  have c32b0 := beq_iff_eq.mpr c32
  have c32b1 := bne_eq_false_iff_eq.mpr c32
  clear c32
  obtain ⟨y402, hy402⟩ : ∃ y_ : List ByteArray, y_ = (([(⟨#[35]⟩ : ByteArray), (⟨#[10]⟩ : ByteArray), (⟨#[127]⟩ : ByteArray)] : List ByteArray)) := ⟨_, rfl⟩
  replace H : ((spec_l1Cur_of.f s0_0 t391 t392 y402).bind fun bt405 => (some (t380, bt405.1, bt405.2.1, bt405.2.2))) = some (r1, r2, r3, r4) := by first | (rw [hy402]; with_reducible exact H) | (have H2_ := (Option.bind_some _ _).symm.trans H; rw [hy402]; with_reducible exact H2_) | (have H2_ := (Option.bind_some _ _).symm.trans H; with_reducible exact H2_) | with_reducible exact H | (rw [hy402]; exact H) | exact H
  have Ny402 := Aside0.mk hy402
  clear hy402
  replace H := Option.bind_eq_some_iff.mp H
  obtain ⟨⟨t405, t406, t407⟩, A330, H⟩ := H
  (try dsimp only at H)
  have A33 := Aside0.mk A330
  clear A330
  simp only [Option.some.injEq, Prod.mk.injEq] at H
  obtain ⟨rfl, rfl, rfl, rfl⟩ := H
  go_enter Tryd.func50, Tryd.ntmps50
  go_wp2_with (first | ((with_reducible refine gate_dst (N := 2) rfl ?_); refine qbox (N := 2) (cs := #[.string (⟨#[]⟩ : ByteArray), .string (⟨#[]⟩ : ByteArray)]) (t := 40) ?_; intro gb376 hg w34 hbox hb; refine qs8 (IsS70.below zz45 hb) (KeepBut.trans zz23 (KeepBut.of_below hb g none) (.inl rfl)) (below_step zz46 hb) (hbox) ((zz120 : w.heap.size ≤ gb376)) ((Nat.le_trans HW0.out (zz120 : w.heap.size ≤ gb376) : w0.heap.size ≤ gb376)) ((zz123 : g ≠ gb376)) ((zz124 : gb376 ≠ g)) ?_; clear HI0 HK HB; intro HI0 HK HB BK376 GW376 GE376 NB0_376 NB376_0; clear hb hbox hg) | ((with_reducible refine gate_dst (N := 5) rfl ?_); refine Kd.R_lit Kd.string _ 9 ?hg (N := 5) ?hd (xs := ([(⟨#[99, 111, 117, 110, 116]⟩ : ByteArray), (⟨#[115, 111, 114, 116, 32, 109, 101, 114, 103, 101]⟩ : ByteArray), (⟨#[120]⟩ : ByteArray), (⟨#[115, 101, 108, 101, 99, 116, 32, 50]⟩ : ByteArray), (⟨#[48, 32, 49]⟩ : ByteArray)] : List ByteArray)) (inner := [.string (⟨#[99, 111, 117, 110, 116]⟩ : ByteArray), .string (⟨#[115, 111, 114, 116, 32, 109, 101, 114, 103, 101]⟩ : ByteArray), .string (⟨#[120]⟩ : ByteArray), .string (⟨#[115, 101, 108, 101, 99, 116, 32, 50]⟩ : ByteArray), .string (⟨#[48, 32, 49]⟩ : ByteArray)]) (ok := fun _ => True) (okp := fun _ => True) ?hr ?hp (fun _ hk => hk) trivial (Below.refl _ _) (Nat.le_refl _) (by simp) ?_; (case hd => rfl); (case hg => rfl); (case hr => exact zz2); (case hp => exact zz117); intro v378 w35 ho36 hb hg_ hnew_; clear hg_ hnew_; (first | rw [← Ny377.out] at ho36 | (simp only [Int.reduceToNat] at ho36; rw [← Ny377.out] at ho36)); refine qs5 (Kd.R_lower ho36 (keep_size (w := w) (g := g) (row := none) zz49)) (IsS70.below zz62 hb) (blk_below (qb BK376.out) hb) (KeepBut.trans zz49 (KeepBut.of_below hb g none) (.inl rfl)) (below_step zz60 hb) ?_; clear HI0 BK376 HK HB; intro HO379 HI0 BK376 HK HB; clear hb ho36; obtain ⟨Ao37, co37, eo37⟩ := Kd.R_slice HO379.out; subst eo37) | ((with_reducible refine gate_callee (f := 67) rfl ?_); refine qcall 6 Tryd.func67 rfl #[.pointer (some ⟨g, 0, none⟩), .slice Ao37 y377.length co37] ?_; (with_reducible refine (spec_l1Cur_of.calls g s0_0 s0_1 s0_2 _ _ y377 t380 t381 t382 w0 _ ?side1 ?side2 ?side3 ?side4 ?side5 A2.out).mono ?_); (case side1 => exact zz62); (case side2 => exact zz60); (case side3 => exact zz47); (case side4 => exact (Kd.R_reads' HO379.out).2.1); (case side5 => exact far_slice (IsS70.own_ne HI0.out HO379.out (by decide))); rintro e w38 ⟨rfl, hi, hb, hk⟩; refine ⟨_, rfl, ?_⟩; refine qs5 (KeepBut.blk hk (qb BK376.out) NB376_0.out (by simp)) (Kd.R_mono (Kd.R_keep (IsS70.apart (show IsS70 w0 _ g s0_0 s0_1 s0_2 from zz62) (qr HO379.out) (by decide)) hk (fun _ h => h.2)) (fun _ h => h.1)) (KeepBut.trans zz49 hk (.inl rfl)) (hb) (hi) ?_; clear BK376 HO379 HK HB HI0; intro BK376 HO379 HK HB HI0; (try clear hb); (try clear hb2); (try clear hk); (try clear hi)) | ((with_reducible refine gate_dst (N := 8) rfl ?_); refine Kd.R_lit Kd.string _ 9 ?hg (N := 8) ?hd (xs := ([(⟨#[]⟩ : ByteArray), (⟨#[51]⟩ : ByteArray), (⟨#[63]⟩ : ByteArray), (⟨#[97, 64, 98]⟩ : ByteArray), (⟨#[51, 32, 49, 32, 50]⟩ : ByteArray)] : List ByteArray)) (inner := [.string (⟨#[]⟩ : ByteArray), .string (⟨#[51]⟩ : ByteArray), .string (⟨#[63]⟩ : ByteArray), .string (⟨#[97, 64, 98]⟩ : ByteArray), .string (⟨#[51, 32, 49, 32, 50]⟩ : ByteArray)]) (ok := fun _ => True) (okp := fun _ => True) ?hr ?hp (fun _ hk => hk) trivial (Below.refl _ _) (Nat.le_refl _) (by simp) ?_; (case hd => rfl); (case hg => rfl); (case hr => exact zz2); (case hp => exact zz109); intro v384 w39 ho40 hb hg_ hnew_; clear hg_ hnew_; (first | rw [← Ny383.out] at ho40 | (simp only [Int.reduceToNat] at ho40; rw [← Ny383.out] at ho40)); refine qs6 (Kd.R_elder' (qr HO379.out) (Kd.R_base ho40) hb) (Kd.R_lower (Kd.R_new' ho40 (Kd.R_lt (qr HO379.out))) (keep_size (w := w) (g := g) (row := none) zz49)) (IsS70.below zz62 hb) (blk_below (qb BK376.out) hb) (KeepBut.trans zz49 (KeepBut.of_below hb g none) (.inl rfl)) (below_step zz60 hb) ?_; clear HO379 HI0 BK376 HK HB; intro HO379 HO385 HI0 BK376 HK HB; clear hb ho40; obtain ⟨Ao41, co41, eo41⟩ := Kd.R_slice HO385.out; subst eo41) | ((with_reducible refine gate_callee (f := 67) rfl ?_); refine qcall 9 Tryd.func67 rfl #[.pointer (some ⟨g, 0, none⟩), .slice Ao41 y383.length co41] ?_; (with_reducible refine (spec_l1Cur_of.calls g s0_0 t381 t382 _ _ y383 t386 t387 t388 w0 _ ?side1 ?side2 ?side3 ?side4 ?side5 A3.out).mono ?_); (case side1 => exact zz62); (case side2 => exact zz60); (case side3 => exact zz48); (case side4 => exact (Kd.R_reads' HO385.out).2.1); (case side5 => exact far_slice (IsS70.own_ne HI0.out HO385.out (by decide))); rintro e w42 ⟨rfl, hi, hb, hk⟩; refine ⟨_, rfl, ?_⟩; refine qs6 (KeepBut.blk hk (qb BK376.out) NB376_0.out (by simp)) (Kd.R_mono (Kd.R_keep (IsS70.apart (show IsS70 w0 _ g s0_0 t381 t382 from zz62) (qr HO379.out) (by decide)) hk (fun _ h => h.2)) (fun _ h => h.1)) (Kd.R_mono (Kd.R_keep (IsS70.apart (show IsS70 w0 _ g s0_0 t381 t382 from zz62) (qr HO385.out) (by decide)) hk (fun _ h => h.2)) (fun _ h => h.1)) (KeepBut.trans zz49 hk (.inl rfl)) (hb) (hi) ?_; clear BK376 HO379 HO385 HK HB HI0; intro BK376 HO379 HO385 HK HB HI0; (try clear hb); (try clear hb2); (try clear hk); (try clear hi)) | ((with_reducible refine gate_dst (N := 3) rfl ?_); refine qbox (N := 3) (cs := #[.string (⟨#[]⟩ : ByteArray), .string (⟨#[]⟩ : ByteArray)]) (t := 40) ?_; intro gb389 hg w43 hbox hb; refine qs13 (Kd.R_below (qr HO379.out) hb) (Kd.R_below (qr HO385.out) hb) (IsS70.below zz62 hb) (blk_below (qb BK376.out) hb) (KeepBut.trans zz49 (KeepBut.of_below hb g none) (.inl rfl)) (below_step zz60 hb) (hbox) ((zz122 : w.heap.size ≤ gb389)) ((Nat.le_trans HW0.out (zz122 : w.heap.size ≤ gb389) : w0.heap.size ≤ gb389)) ((by rw [hg]; exact Nat.ne_of_lt (blk_lt (qb BK376.out)) : gb376 ≠ gb389)) ((by rw [hg]; exact Nat.ne_of_gt (blk_lt (qb BK376.out)) : gb389 ≠ gb376)) ((by rw [hg]; exact Nat.ne_of_lt (IsS70.lt (show IsS70 w0 _ g s0_0 t387 t388 from zz62)) : g ≠ gb389)) ((by rw [hg]; exact Nat.ne_of_gt (IsS70.lt (show IsS70 w0 _ g s0_0 t387 t388 from zz62)) : gb389 ≠ g)) ?_; clear HO379 HO385 HI0 BK376 HK HB; intro HO379 HO385 HI0 BK376 HK HB BK389 GW389 GE389 NB376_389 NB389_376 NB0_389 NB389_0; clear hb hbox hg; have hnb44 := NB389_376.out; have hnc44 := NB376_389.out; have hnb45 := NB389_0.out; have hnc45 := NB0_389.out; obtain ⟨hcz46_0, hcz46_1, hfz46_0, hfz46_1⟩ := qc2 BK389.out) | ((with_reducible refine gate_callee (f := 54) rfl ?_); refine qcall 12 Tryd.func54 rfl #[.pointer (some ⟨g, 0, none⟩), .int .i64 24] ?_; (with_reducible refine (spec_l1Cur_pick.calls g s0_0 t387 t388 24 t390 t391 t392 w0 _ ?side1 ?side2 A4.out).mono ?_); (case side1 => exact zz75); (case side2 => exact zz72); rintro e w47 ⟨rfl, hi, hb, hk⟩; refine ⟨_, rfl, ?_⟩; refine qs7 (KeepBut.blk hk (g' := gb376) (o := .cells #[.string (⟨#[]⟩ : ByteArray), .string (⟨#[]⟩ : ByteArray)] 40 (0, 0)) zz87 NB376_0.out (by simp)) (Kd.R_mono (Kd.R_keep (IsS70.apart (show IsS70 w0 _ g s0_0 t387 t388 from zz75) zz83 (by decide)) hk (fun _ h => h.2)) (fun _ h => h.1)) (Kd.R_mono (Kd.R_keep (IsS70.apart (show IsS70 w0 _ g s0_0 t387 t388 from zz75) zz84 (by decide)) hk (fun _ h => h.2)) (fun _ h => h.1)) (KeepBut.blk hk (g' := gb389) (o := .cells #[.string t380, .string t386] 40 (0, 0)) zz91 NB389_0.out (by simp)) (KeepBut.trans zz65 hk (.inl rfl)) (hb) (hi) ?_; clear BK376 HO379 HO385 BK389 HK HB HI0; intro BK376 HO379 HO385 BK389 HK HB HI0; (try clear hb); (try clear hb2); (try clear hk); (try clear hi)) | ((with_reducible refine gate_dst (N := 24) rfl ?_); refine Kd.R_lit Kd.string _ 9 ?hg (N := 24) ?hd (xs := ([(⟨#[35]⟩ : ByteArray), (⟨#[10]⟩ : ByteArray), (⟨#[127]⟩ : ByteArray)] : List ByteArray)) (inner := [.string (⟨#[35]⟩ : ByteArray), .string (⟨#[10]⟩ : ByteArray), .string (⟨#[127]⟩ : ByteArray)]) (ok := fun _ => True) (okp := fun _ => True) ?hr ?hp (fun _ hk => hk) trivial (Below.refl _ _) (Nat.le_refl _) (by simp) ?_; (case hd => rfl); (case hg => rfl); (case hr => exact zz2); (case hp => exact (Reps.one (show Kd.M Kd.string _ _ _ (⟨#[35]⟩ : ByteArray) [.string (⟨#[35]⟩ : ByteArray)] from rfl) (Reps.one (show Kd.M Kd.string _ _ _ (⟨#[10]⟩ : ByteArray) [.string (⟨#[10]⟩ : ByteArray)] from rfl) (Reps.one (show Kd.M Kd.string _ _ _ (⟨#[127]⟩ : ByteArray) [.string (⟨#[127]⟩ : ByteArray)] from rfl) (Reps.none _ _))))); intro v403 w48 ho49 hb hg_ hnew_; clear hg_ hnew_; (first | rw [← Ny402.out] at ho49 | (simp only [Int.reduceToNat] at ho49; rw [← Ny402.out] at ho49)); refine qs8 (Kd.R_elder' (qr HO379.out) (Kd.R_base ho49) hb) (Kd.R_elder' (qr HO385.out) (Kd.R_base ho49) hb) (Kd.R_lower (Kd.R_new' (Kd.R_new' ho49 (Kd.R_lt (qr HO379.out))) (Kd.R_lt (qr HO385.out))) (keep_size (w := w) (g := g) (row := none) zz65)) (IsS70.below zz75 hb) (blk_below (qb BK376.out) hb) (blk_below (qb BK389.out) hb) (KeepBut.trans zz65 (KeepBut.of_below hb g none) (.inl rfl)) (below_step zz72 hb) ?_; clear HO379 HO385 HI0 BK376 BK389 HK HB; intro HO379 HO385 HO404 HI0 BK376 BK389 HK HB; clear hb ho49; obtain ⟨Ao50, co50, eo50⟩ := Kd.R_slice HO404.out; subst eo50) | ((with_reducible refine gate_callee (f := 67) rfl ?_); refine qcall 25 Tryd.func67 rfl #[.pointer (some ⟨g, 0, none⟩), .slice Ao50 y402.length co50] ?_; (with_reducible refine (spec_l1Cur_of.calls g s0_0 t391 t392 _ _ y402 t405 t406 t407 w0 _ ?side1 ?side2 ?side3 ?side4 ?side5 A33.out).mono ?_); (case side1 => exact zz75); (case side2 => exact zz72); (case side3 => repeat (first | exact (Kd.R_reads' HO404.out).2.2 | (with_reducible refine Kd.C_alloc ?_ _) | (with_reducible refine Kd.C_drewN ?_ _) | (with_reducible refine Kd.C_drew ?_))); (case side4 => exact (Kd.R_reads' HO404.out).2.1); (case side5 => exact far_slice (IsS70.own_ne HI0.out HO404.out (by decide))); rintro e w51 ⟨rfl, hi, hb, hk⟩; refine ⟨_, rfl, ?_⟩; refine qs8 (KeepBut.blk hk (qb BK376.out) NB376_0.out (by simp)) (Kd.R_mono (Kd.R_keep (IsS70.apart (show IsS70 w0 _ g s0_0 t391 t392 from zz75) (qr HO379.out) (by decide)) hk (fun _ h => h.2)) (fun _ h => h.1)) (Kd.R_mono (Kd.R_keep (IsS70.apart (show IsS70 w0 _ g s0_0 t391 t392 from zz75) (qr HO385.out) (by decide)) hk (fun _ h => h.2)) (fun _ h => h.1)) (KeepBut.blk hk (qb BK389.out) NB389_0.out (by simp)) (Kd.R_mono (Kd.R_keep (IsS70.apart (show IsS70 w0 _ g s0_0 t391 t392 from zz75) (qr HO404.out) (by decide)) hk (fun _ h => h.2)) (fun _ h => h.1)) (KeepBut.trans zz65 hk (.inl rfl)) (hb) (hi) ?_; clear BK376 HO379 HO385 BK389 HO404 HK HB HI0; intro BK376 HO379 HO385 BK389 HO404 HK HB HI0; (try clear hb); (try clear hb2); (try clear hk); (try clear hi); obtain ⟨hcz52_0, hcz52_1, hfz52_0, hfz52_1⟩ := qc2 BK389.out; have hnb53 := NB376_0.out; have hnc53 := NB0_376.out; obtain ⟨hcz54_0, hcz54_1, hfz54_0, hfz54_1⟩ := qc2 BK376.out))
  refine bodyPost_ret (results_cell_row rfl _ _ gb376 40 #[.string t380, .string t405] (0, 0) _ rfl (by (with_reducible repeat (first | refine blk_drewN ?_ _ | refine blk_drew ?_ | refine blk_alloc ?_ _)); refine blk_put (cs := #[.string t380, .string (⟨#[]⟩ : ByteArray)]) ?_ 1 _ rfl; (with_reducible repeat (first | refine blk_drewN ?_ _ | refine blk_drew ?_ | refine blk_alloc ?_ _)); refine blk_put (cs := #[.string (⟨#[]⟩ : ByteArray), .string (⟨#[]⟩ : ByteArray)]) ?_ 0 _ rfl; (with_reducible repeat (first | refine blk_drewN ?_ _ | refine blk_drew ?_ | refine blk_alloc ?_ _)); refine blk_far ?_ NB376_389.out _; (with_reducible repeat (first | refine blk_drewN ?_ _ | refine blk_drew ?_ | refine blk_alloc ?_ _)); exact BK376.out) Tryd.underlying40 rfl (by kernel_rfl)) rfl ?_
  exact ⟨zz7, zz75, zz72, zz65⟩

end

section
attribute [local go_sem high] run_add_cat run_slice_cat run_slice_cat_h run_slice_cat_l run_slice_cat_all
/-! ### spec_DrawEncodeRecord: function 30 -/
end

section
attribute [local go_sem high] run_add_cat run_slice_cat run_slice_cat_h run_slice_cat_l run_slice_cat_all
/-! ### spec_EncodeRecord: function 32 -/
end

section
attribute [local go_sem high] run_add_cat run_slice_cat run_slice_cat_h run_slice_cat_l run_slice_cat_all
/-! ### spec_l1Cur_one: function 56 -/
def spec_l1Cur_one.f (s0_0 : List Int) (s0_1 : Int) (s0_2 : Int) (a1 : Int) : Option (Bool × Int × Int) := (spec_l1Cur_pick.f s0_0 s0_1 s0_2 a1).bind fun bt424 => (some ((bt424.1 == 0), bt424.2.1, bt424.2.2))
set_option maxHeartbeats 8000000 in
set_option maxRecDepth 100000 in
theorem spec_l1Cur_one.calls (g : Nat) (s0_0 : List Int) (s0_1 : Int) (s0_2 : Int) (a1 : Int) (r1 : Bool) (r2 : Int) (r3 : Int) (w0 w : World) (hI : IsS70 w0 w g s0_0 s0_1 s0_2) (hB : Below w0.heap.size w0 w) (h : spec_l1Cur_one.f s0_0 s0_1 s0_2 a1 = some (r1, r2, r3)) :
    Calls Tryd.prog 56 #[.pointer (some ⟨g, 0, none⟩), .int .i64 a1] w fun e w' => e = .returned (.bool r1) ∧ IsS70 w0 w' g s0_0 r2 r3 ∧ Below w0.heap.size w0 w' ∧ KeepBut w w' g none := by
  have HI0 := Aside0.mk hI
  have HK := Aside0.mk (KeepBut.refl w g none)
  have HL := Aside0.mk hB.size
  clear hI
  have HW0 := Aside0.mk hB.size
  have HB := Aside0.mk hB
  clear hB
  unfold spec_l1Cur_one.f at h
  have H := h
  clear h
  replace H := Option.bind_eq_some_iff.mp H
  obtain ⟨⟨t424, t425, t426⟩, A30, H⟩ := H
  (try dsimp only at H)
  have A3 := Aside0.mk A30
  clear A30
  simp only [Option.some.injEq, Prod.mk.injEq] at H
  obtain ⟨rfl, rfl, rfl⟩ := H
  go_enter Tryd.func56, Tryd.ntmps56
  go_wp2_with (first | ((with_reducible refine gate_callee (f := 54) rfl ?_); refine qcall 7 Tryd.func54 rfl #[.pointer (some ⟨g, 0, none⟩), .int .i64 a1] ?_; (with_reducible refine (spec_l1Cur_pick.calls g s0_0 s0_1 s0_2 a1 t424 t425 t426 w0 _ ?side1 ?side2 A3.out).mono ?_); (case side1 => exact zz45); (case side2 => exact zz46); rintro e w4 ⟨rfl, hi, hb, hk⟩; refine ⟨_, rfl, ?_⟩; refine qs3 (KeepBut.trans zz23 hk (.inl rfl)) (hb) (hi) ?_; clear HK HB HI0; intro HK HB HI0; (try clear hb); (try clear hb2); (try clear hk); (try clear hi)))
  go_ret
  exact ⟨zz7, zz45, zz46, zz23⟩

end

section
attribute [local go_sem high] run_add_cat run_slice_cat run_slice_cat_h run_slice_cat_l run_slice_cat_all
/-! ### spec_l1Cur_log: function 53 -/
def spec_l1Cur_log.l0 : Nat → Int → List Int → Int → Int → ByteArray → ByteArray → Int → Option (ByteArray × ByteArray × Int × Int × Int)
  | 0, _, _, _, _, _, _, _ => none
  | k + 1, x4, x1000, x1001, x1002, x429000, x429001, x429002 => if x4 > 0 then ((spec_l1Cur_logRecord.f x1000 x1001 x1002).bind fun bt432 => ((spec_AppendRecord.f k x429000 x429001 x429002 bt432.1 bt432.2.1).bind fun bt436 => ((spec_l1Cur_one.f x1000 bt432.2.2.1 bt432.2.2.2 4).bind fun bt440 => (if bt440.1 = true then ((spec_SyncLog.f k bt436.1 bt436.2.1 bt436.2.2.1).bind fun bt443 => (spec_l1Cur_log.l0 k (wrap64 (x4 - 1)) x1000 bt440.2.1 bt440.2.2 bt443.1 bt443.2.1 bt443.2.2.1)) else (spec_l1Cur_log.l0 k (wrap64 (x4 - 1)) x1000 bt440.2.1 bt440.2.2 bt436.1 bt436.2.1 bt436.2.2.1))))) else (some (x429000, x429001, x429002, x1001, x1002))
def spec_l1Cur_log.f (k : Nat) (s0_0 : List Int) (s0_1 : Int) (s0_2 : Int) : Option (ByteArray × ByteArray × Int × Int × Int) := (spec_l1Cur_pick.f s0_0 s0_1 s0_2 7).bind fun bt429 => (spec_l1Cur_log.l0 k bt429.1 s0_0 bt429.2.1 bt429.2.2 (⟨#[]⟩ : ByteArray) (⟨#[]⟩ : ByteArray) 0)
def spec_l1Cur_log.T5 : Bool × List (List Nat × List Nat) := (true, [([], []), ([], []), ([1], [1]), ([0, 2, 2], [0, 2]), ([3], [3]), ([4], [4]), ([4], [4]), ([5, 3, 0, 1, 2, 3, 4, 5], [5])])
def spec_l1Cur_log.B5 : List Nat := [0, 0, 2, 7, 15, 31, 31, 63]
theorem spec_l1Cur_log.tab5 : rtab .any (opsOf Tryd.f53 5) = spec_l1Cur_log.T5 := by kernel_rfl
theorem spec_l1Cur_log.bits5 : waitsOk spec_l1Cur_log.T5.2 spec_l1Cur_log.B5 = true := by kernel_rfl
set_option maxHeartbeats 8000000 in
set_option maxRecDepth 100000 in
theorem spec_l1Cur_log.calls (k : Nat) (g : Nat) (s0_0 : List Int) (s0_1 : Int) (s0_2 : Int) (r1 : ByteArray) (r2 : ByteArray) (r3 : Int) (r4 : Int) (r5 : Int) (w0 w : World) (hI : IsS70 w0 w g s0_0 s0_1 s0_2) (hB : Below w0.heap.size w0 w) (h : spec_l1Cur_log.f k s0_0 s0_1 s0_2 = some (r1, r2, r3, r4, r5)) :
    Calls Tryd.prog 53 #[.pointer (some ⟨g, 0, none⟩)] w fun e w' => e = .returned (.agg #[.string r1, .string r2, .int .i64 r3]) ∧ IsS70 w0 w' g s0_0 r4 r5 ∧ Below w0.heap.size w0 w' ∧ KeepBut w w' g none := by
  have hu26 := Tryd.underlying26
  have HI0 := Aside0.mk hI
  have HK := Aside0.mk (KeepBut.refl w g none)
  have HL := Aside0.mk hB.size
  clear hI
  have HW0 := Aside0.mk hB.size
  have HB := Aside0.mk hB
  clear hB
  unfold spec_l1Cur_log.f at h
  have H := h
  clear h
  replace H := Option.bind_eq_some_iff.mp H
  obtain ⟨⟨t429, t430, t431⟩, A20, H⟩ := H
  (try dsimp only at H)
  have A2 := Aside0.mk A20
  clear A20
  have H' := Aside0.mk H
  clear H
  go_enter Tryd.func53, Tryd.ntmps53
  go_wp2_with (first | ((with_reducible refine gate_dst (N := 2) rfl ?_); refine qbox (N := 2) (cs := #[.string (⟨#[]⟩ : ByteArray), .string (⟨#[]⟩ : ByteArray), .int .i64 0]) (t := 26) ?_; intro gb427 hg w3 hbox hb; refine qs8 (IsS70.below zz45 hb) (KeepBut.trans zz23 (KeepBut.of_below hb g none) (.inl rfl)) (below_step zz46 hb) (hbox) ((zz120 : w.heap.size ≤ gb427)) ((Nat.le_trans HW0.out (zz120 : w.heap.size ≤ gb427) : w0.heap.size ≤ gb427)) ((zz123 : g ≠ gb427)) ((zz124 : gb427 ≠ g)) ?_; clear HI0 HK HB; intro HI0 HK HB BK427 GW427 GE427 NB0_427 NB427_0; clear hb hbox hg) | ((with_reducible refine gate_dst (N := 3) rfl ?_); refine qbox (N := 3) (cs := #[.string (⟨#[]⟩ : ByteArray), .string (⟨#[]⟩ : ByteArray), .int .i64 0]) (t := 26) ?_; intro gb428 hg w4 hbox hb; refine qs11 (IsS70.below zz64 hb) (blk_below (qb BK427.out) hb) (KeepBut.trans zz51 (KeepBut.of_below hb g none) (.inl rfl)) (below_step (by repeat (first | (with_reducible first | exact HB.out | apply below_alloc | apply pw_below_drewN | apply below_drew1 | refine below_set ?_ (IsS70.ge HI0.out) | refine below_set ?_ GE427.out) | exact HB.out)) hb) (hbox) ((by rw [hg]; exact (keep_size (w := w) (g := g) (row := none) zz51) : w.heap.size ≤ gb428)) ((Nat.le_trans HW0.out (by rw [hg]; exact (keep_size (w := w) (g := g) (row := none) zz51) : w.heap.size ≤ gb428) : w0.heap.size ≤ gb428)) ((by rw [hg]; exact Nat.ne_of_lt (blk_lt (qb BK427.out)) : gb427 ≠ gb428)) ((by rw [hg]; exact Nat.ne_of_gt (blk_lt (qb BK427.out)) : gb428 ≠ gb427)) ((by rw [hg]; exact Nat.ne_of_lt (IsS70.lt (show IsS70 w0 _ g s0_0 s0_1 s0_2 from zz64)) : g ≠ gb428)) ((by rw [hg]; exact Nat.ne_of_gt (IsS70.lt (show IsS70 w0 _ g s0_0 s0_1 s0_2 from zz64)) : gb428 ≠ g)) ?_; clear HI0 BK427 HK HB; intro HI0 BK427 HK HB BK428 GW428 GE428 NB427_428 NB428_427 NB0_428 NB428_0; clear hb hbox hg; have hnb5 := NB428_427.out; have hnc5 := NB427_428.out; have hnb6 := NB428_0.out; have hnc6 := NB0_428.out; obtain ⟨hcz7_0, hcz7_1, hcz7_2, hfz7_0, hfz7_1, hfz7_2⟩ := qc3 BK428.out) | ((with_reducible refine gate_callee (f := 54) rfl ?_); refine qcall 7 Tryd.func54 rfl #[.pointer (some ⟨g, 0, none⟩), .int .i64 7] ?_; (with_reducible refine (spec_l1Cur_pick.calls g s0_0 s0_1 s0_2 7 t429 t430 t431 w0 _ ?side1 ?side2 A2.out).mono ?_); (case side1 => exact zz76); (case side2 => exact zz71); rintro e w8 ⟨rfl, hi, hb, hk⟩; refine ⟨_, rfl, ?_⟩; refine qs5 (KeepBut.blk hk (g' := gb427) (o := .cells #[.string (⟨#[]⟩ : ByteArray), .string (⟨#[]⟩ : ByteArray), .int .i64 0] 26 (0, 0)) zz97 NB427_0.out (by simp)) (KeepBut.blk hk (g' := gb428) (o := .cells #[.string (⟨#[]⟩ : ByteArray), .string (⟨#[]⟩ : ByteArray), .int .i64 0] 26 (0, 0)) (by (with_reducible repeat (first | refine blk_drewN ?_ _ | refine blk_drew ?_ | refine blk_alloc ?_ _)); refine blk_put (cs := #[.string (⟨#[]⟩ : ByteArray), .string (⟨#[]⟩ : ByteArray), .int .i64 0]) ?_ 2 _ rfl; (with_reducible repeat (first | refine blk_drewN ?_ _ | refine blk_drew ?_ | refine blk_alloc ?_ _)); refine blk_put (cs := #[.string (⟨#[]⟩ : ByteArray), .string (⟨#[]⟩ : ByteArray), .int .i64 0]) ?_ 1 _ rfl; (with_reducible repeat (first | refine blk_drewN ?_ _ | refine blk_drew ?_ | refine blk_alloc ?_ _)); refine blk_put (cs := #[.string (⟨#[]⟩ : ByteArray), .string (⟨#[]⟩ : ByteArray), .int .i64 0]) ?_ 0 _ rfl; (with_reducible repeat (first | refine blk_drewN ?_ _ | refine blk_drew ?_ | refine blk_alloc ?_ _)); exact BK428.out) NB428_0.out (by simp)) (KeepBut.trans zz66 hk (.inl rfl)) (hb) (hi) ?_; clear BK427 BK428 HK HB HI0; intro BK427 BK428 HK HB HI0; (try clear hb); (try clear hb2); (try clear hk); (try clear hi)))
  go_loopg [4] k (fun kq v4 w' => ∃ (x4_1 : Int) (x1001_1 : Int) (x1002_1 : Int) (x429000_1 : ByteArray) (x429001_1 : ByteArray) (x429002_1 : Int), v4 = .int .i64 x4_1 ∧ Aside0 (spec_l1Cur_log.l0 kq x4_1 s0_0 x1001_1 x1002_1 x429000_1 x429001_1 x429002_1 = some (r1, r2, r3, r4, r5)) ∧ Aside0 (kq ≤ k) ∧ Aside0 (w'.heap[gb427]? = some (.cells #[.string (⟨#[]⟩ : ByteArray), .string (⟨#[]⟩ : ByteArray), .int .i64 0] 26 (0, 0))) ∧ Aside0 (w'.heap[gb428]? = some (.cells #[.string x429000_1, .string x429001_1, .int .i64 x429002_1] 26 (0, 0))) ∧ Aside0 (IsS70 w0 w' g s0_0 x1001_1 x1002_1) ∧ Aside0 (KeepBut w w' g none) ∧ Aside0 (Below w0.heap.size w0 w'))
  case atStart => exact ⟨(t429), (t430), (t431), ((⟨#[]⟩ : ByteArray)), ((⟨#[]⟩ : ByteArray)), (0), zz3, H', ⟨Nat.le_refl _⟩, ⟨by (with_reducible repeat (first | refine blk_drewN ?_ _ | refine blk_drew ?_ | refine blk_alloc ?_ _)); exact BK427.out⟩, ⟨by (with_reducible repeat (first | refine blk_drewN ?_ _ | refine blk_drew ?_ | refine blk_alloc ?_ _)); exact BK428.out⟩, ⟨zz76⟩, ⟨zz66⟩, ⟨zz71⟩⟩
  case round =>
    clear H'
    try clear p2
    try clear c5
    try clear c6
    try clear hcz7_0
    try clear hcz7_1
    try clear hcz7_2
    try clear hfz7_0
    try clear hfz7_1
    try clear hfz7_2
    obtain ⟨x4_1, x1001_1, x1002_1, x429000_1, x429001_1, x429002_1, rfl, HA, HK1, BK427, BK428, HI0, HK, HB⟩ := hrel
    cases gk with
    | zero => exact absurd HA.out (by simp [spec_l1Cur_log.l0])
    | succ k1 =>
      have H := HA.out
      clear HA
      simp only [spec_l1Cur_log.l0] at H
      by_cases c9 : x4_1 > 0
      rotate_left
      · rw [if_neg c9] at H
        have c9b0 := decide_eq_false c9
        clear c9
        simp only [Option.some.injEq, Prod.mk.injEq] at H
        obtain ⟨rfl, rfl, rfl, rfl, rfl⟩ := H
        have hnb34 := NB428_427.out
        have hnc34 := NB427_428.out
        have hnb35 := NB428_0.out
        have hnc35 := NB0_428.out
        obtain ⟨hcz36_0, hcz36_1, hcz36_2, hfz36_0, hfz36_1, hfz36_2⟩ := qc3 BK428.out
        have hnb37 := NB427_0.out
        have hnc37 := NB0_427.out
        obtain ⟨hcz38_0, hcz38_1, hcz38_2, hfz38_0, hfz38_1, hfz38_2⟩ := qc3 BK427.out
        go_wp2
        refine bodyPost_ret (results_cell_row rfl _ _ gb427 26 #[.string x429000_1, .string x429001_1, .int .i64 x429002_1] (0, 0) _ rfl (by (with_reducible repeat (first | refine blk_drewN ?_ _ | refine blk_drew ?_ | refine blk_alloc ?_ _)); refine blk_put (cs := #[.string x429000_1, .string x429001_1, .int .i64 0]) ?_ 2 _ rfl; (with_reducible repeat (first | refine blk_drewN ?_ _ | refine blk_drew ?_ | refine blk_alloc ?_ _)); refine blk_put (cs := #[.string x429000_1, .string (⟨#[]⟩ : ByteArray), .int .i64 0]) ?_ 1 _ rfl; (with_reducible repeat (first | refine blk_drewN ?_ _ | refine blk_drew ?_ | refine blk_alloc ?_ _)); refine blk_put (cs := #[.string (⟨#[]⟩ : ByteArray), .string (⟨#[]⟩ : ByteArray), .int .i64 0]) ?_ 0 _ rfl; (with_reducible repeat (first | refine blk_drewN ?_ _ | refine blk_drew ?_ | refine blk_alloc ?_ _)); exact BK427.out) Tryd.underlying26 rfl (by kernel_rfl)) rfl ?_
        exact ⟨zz7, zz76, zz71, zz66⟩
      rw [if_pos c9] at H
      have c9b0 := decide_eq_true c9
      clear c9
      replace H := Option.bind_eq_some_iff.mp H
      obtain ⟨⟨t432, t433, t434, t435⟩, A100, H⟩ := H
      (try dsimp only at H)
      have A10 := Aside0.mk A100
      clear A100
      replace H := Option.bind_eq_some_iff.mp H
      obtain ⟨⟨t436, t437, t438, t439⟩, A110, H⟩ := H
      (try dsimp only at H)
      have A11 := Aside0.mk A110
      clear A110
      replace H := Option.bind_eq_some_iff.mp H
      obtain ⟨⟨t440, t441, t442⟩, A120, H⟩ := H
      (try dsimp only at H)
      have A12 := Aside0.mk A120
      clear A120
      by_cases c13 : t440 = true
      rotate_left
      · replace c13 := Bool.eq_false_iff.mpr c13
        subst c13
        rw [if_neg (show ¬ (false = true) by decide)] at H
        have H' := Aside0.mk H
        clear H
        try go_wp2
        refine qs5 (blk_drew BK427.out) (blk_drew BK428.out) (IsS70.drew HI0.out) (keep_drew HK.out) (below_drew1 HB.out) ?_; clear BK427 BK428 HI0 HK HB; intro BK427 BK428 HI0 HK HB
        refine start_ (n := 8) (S := fun w' => w'.cell? ⟨gb428, 0, none⟩ = some (.string x429000_1) ∧ w'.cell? ⟨gb428, 1, none⟩ = some (.string x429001_1) ∧ w'.cell? ⟨gb428, 2, none⟩ = some (.int .i64 x429002_1)) (ds := [7]) #[false, false, false, false, false, false, false, false] (by kernel_rfl) rfl rfl ⟨(blk_cell BK428.out 0).trans rfl, (blk_cell BK428.out 1).trans rfl, (blk_cell BK428.out 2).trans rfl⟩ (fun hHeld => ?_); refine with_tabW spec_l1Cur_log.tab5 spec_l1Cur_log.bits5 (fun HT_ HW_ => ?_)
        generalize wr.drew = w27 at BK427 BK428 HI0 HK HB hHeld ⊢
        refine qp 1 14 ?_; refine qt3 0 13 ?_
        refine one_ (i := 2) (N := some 15) #[true, true, true, false, false, false, false, false] rfl rfl (one_of HT_.out (by kernel_rfl)) (by decide) (fun K hK => ?_)
        refine goes_ Tryd.func50 (by kernel_rfl) rfl #[.pointer (some ⟨g, 0, none⟩)] (by rfl) rfl rfl zz21 ?_
        with_reducible refine (spec_l1Cur_logRecord.calls g s0_0 x1001_1 x1002_1 t432 t433 t434 t435 w0 _ ?side1 ?side2 A10.out).mono ?_
        (case side1 => exact zz76)
        (case side2 => exact zz71)
        rintro e w28 ⟨rfl, hi, hb, hk⟩
        refine ⟨_, rfl, ?_⟩
        refine qs5 (KeepBut.blk hk (qb BK427.out) NB427_0.out (by simp)) (KeepBut.blk hk (qb BK428.out) NB428_0.out (by simp)) (KeepBut.trans zz66 hk (.inl rfl)) (hb) (hi) ?_; clear BK427 BK428 HK HB HI0; intro BK427 BK428 HK HB HI0
        (try clear hb)
        (try clear hb2)
        (try clear hk)
        (try clear hi)
        refine hK.out _ _ ⟨(blk_cell BK428.out 0).trans rfl, (blk_cell BK428.out 1).trans rfl, (blk_cell BK428.out 2).trans rfl⟩ (fun hHeld => ?_)
        clear hK K
        refine norm_ (a' := ?_) ?_ ?_
        rotate_left
        · show Act.put _ (some 15) _ = _
          simp only [Act.put, List.setIfInBounds_toArray, List.set_cons_zero, List.set_cons_succ, i64_w, i32_w]
          rfl
        refine one_ (i := 3) (N := some 16) #[true, true, true, true, false, false, false, false] rfl rfl (one_of HT_.out (by kernel_rfl)) (by decide) (fun K hK => ?_)
        refine goes_ Tryd.func21 (by kernel_rfl) rfl #[.agg #[.string x429000_1, .string x429001_1, .int .i64 x429002_1], .agg #[.string t432, .string t433]] (by rfl) rfl rfl zz21 ?_
        with_reducible refine (spec_AppendRecord.calls k1 x429000_1 x429001_1 x429002_1 t432 t433 t436 t437 t438 t439 _ A11.out).mono ?_
        rintro e w29 ⟨rfl, hb⟩
        refine ⟨_, rfl, ?_⟩
        refine qs5 (blk_below (qb BK427.out) hb) (blk_below (qb BK428.out) hb) (IsS70.below zz76 hb) (KeepBut.trans zz66 (KeepBut.of_below hb g none) (.inl rfl)) (below_step zz71 hb) ?_; clear BK427 BK428 HI0 HK HB; intro BK427 BK428 HI0 HK HB
        (try clear hb)
        (try clear hb2)
        (try clear hk)
        (try clear hi)
        refine hK.out _ _ ⟨(blk_cell BK428.out 0).trans rfl, (blk_cell BK428.out 1).trans rfl, (blk_cell BK428.out 2).trans rfl⟩ (fun hHeld => ?_)
        clear hK K
        refine norm_ (a' := ?_) ?_ ?_
        rotate_left
        · show Act.put _ (some 16) _ = _
          simp only [Act.put, List.setIfInBounds_toArray, List.set_cons_zero, List.set_cons_succ, i64_w, i32_w]
          rfl
        refine qp 4 12 ?_; refine qp 5 17 ?_; refine qp 6 18 ?_
        refine last_ (i := 7) (N := none) #[true, true, true, true, true, true, true, true] rfl rfl (one_of HT_.out (by kernel_rfl)) (by decide) (fun K hK => ?_)
        have hs30 : w29.cell? ⟨gb428, 0, none⟩ = some (.string x429000_1) := (blk_cell BK428.out 0).trans rfl
        have hfs30 := blk_frozen BK428.out 0
        have hns30_0 := NB427_428.out
        have hms30_0 := NB428_427.out
        have hs31 : w29.cell? ⟨gb428, 1, none⟩ = some (.string x429001_1) := (blk_cell BK428.out 1).trans rfl
        have hfs31 := blk_frozen BK428.out 1
        have hns31_0 := NB427_428.out
        have hms31_0 := NB428_427.out
        have hs32 : w29.cell? ⟨gb428, 2, none⟩ = some (.int .i64 x429002_1) := (blk_cell BK428.out 2).trans rfl
        have hfs32 := blk_frozen BK428.out 2
        have hns32_0 := NB427_428.out
        have hms32_0 := NB428_427.out
        refine skip_ (w1 := ?_) (by rfl) rfl ?_ ?_
        rotate_left
        · go_simp
          rfl
        refine hK.out _ _ ?_
        clear hK K
        refine done_ (done_of HT_.out (by kernel_rfl)) ?_
        try go_wp2_with (first | ((with_reducible refine gate_callee (f := 56) rfl ?_); refine qcall 20 Tryd.func56 rfl #[.pointer (some ⟨g, 0, none⟩), .int .i64 4] ?_; (with_reducible refine (spec_l1Cur_one.calls g s0_0 t434 t435 4 false t441 t442 w0 _ ?side1 ?side2 A12.out).mono ?_); (case side1 => exact zz76); (case side2 => exact zz71); rintro e w33 ⟨rfl, hi, hb, hk⟩; refine ⟨_, rfl, ?_⟩; refine qs5 (KeepBut.blk hk (g' := gb427) (o := .cells #[.string (⟨#[]⟩ : ByteArray), .string (⟨#[]⟩ : ByteArray), .int .i64 0] 26 (0, 0)) zz97 NB427_0.out (by simp)) (KeepBut.blk hk (g' := gb428) (o := .cells #[.string t436, .string t437, .int .i64 t438] 26 (0, 0)) zz111 NB428_0.out (by simp)) (KeepBut.trans zz66 hk (.inl rfl)) (hb) (hi) ?_; clear BK427 BK428 HK HB HI0; intro BK427 BK428 HK HB HI0; (try clear hb); (try clear hb2); (try clear hk); (try clear hi)))
        go_roundg k1
        case measure => have := HK1.out; omega
        case rel => exact ⟨(wrap64 (x4_1 - 1)), (t441), (t442), (t436), (t437), (t438), zz3, H', ⟨zz0⟩, ⟨by (with_reducible repeat (first | refine blk_drewN ?_ _ | refine blk_drew ?_ | refine blk_alloc ?_ _)); exact BK427.out⟩, ⟨by (with_reducible repeat (first | refine blk_drewN ?_ _ | refine blk_drew ?_ | refine blk_alloc ?_ _)); exact BK428.out⟩, ⟨zz76⟩, ⟨zz66⟩, ⟨zz71⟩⟩
      subst c13
      rw [if_pos rfl] at H
      replace H := Option.bind_eq_some_iff.mp H
      obtain ⟨⟨t443, t444, t445, t446⟩, A140, H⟩ := H
      (try dsimp only at H)
      have A14 := Aside0.mk A140
      clear A140
      have H' := Aside0.mk H
      clear H
      try go_wp2
      refine qs5 (blk_drew BK427.out) (blk_drew BK428.out) (IsS70.drew HI0.out) (keep_drew HK.out) (below_drew1 HB.out) ?_; clear BK427 BK428 HI0 HK HB; intro BK427 BK428 HI0 HK HB
      refine start_ (n := 8) (S := fun w' => w'.cell? ⟨gb428, 0, none⟩ = some (.string x429000_1) ∧ w'.cell? ⟨gb428, 1, none⟩ = some (.string x429001_1) ∧ w'.cell? ⟨gb428, 2, none⟩ = some (.int .i64 x429002_1)) (ds := [7]) #[false, false, false, false, false, false, false, false] (by kernel_rfl) rfl rfl ⟨(blk_cell BK428.out 0).trans rfl, (blk_cell BK428.out 1).trans rfl, (blk_cell BK428.out 2).trans rfl⟩ (fun hHeld => ?_); refine with_tabW spec_l1Cur_log.tab5 spec_l1Cur_log.bits5 (fun HT_ HW_ => ?_)
      generalize wr.drew = w15 at BK427 BK428 HI0 HK HB hHeld ⊢
      refine qp 1 14 ?_; refine qt3 0 13 ?_
      refine one_ (i := 2) (N := some 15) #[true, true, true, false, false, false, false, false] rfl rfl (one_of HT_.out (by kernel_rfl)) (by decide) (fun K hK => ?_)
      refine goes_ Tryd.func50 (by kernel_rfl) rfl #[.pointer (some ⟨g, 0, none⟩)] (by rfl) rfl rfl zz21 ?_
      with_reducible refine (spec_l1Cur_logRecord.calls g s0_0 x1001_1 x1002_1 t432 t433 t434 t435 w0 _ ?side1 ?side2 A10.out).mono ?_
      (case side1 => exact zz76)
      (case side2 => exact zz71)
      rintro e w16 ⟨rfl, hi, hb, hk⟩
      refine ⟨_, rfl, ?_⟩
      refine qs5 (KeepBut.blk hk (qb BK427.out) NB427_0.out (by simp)) (KeepBut.blk hk (qb BK428.out) NB428_0.out (by simp)) (KeepBut.trans zz66 hk (.inl rfl)) (hb) (hi) ?_; clear BK427 BK428 HK HB HI0; intro BK427 BK428 HK HB HI0
      (try clear hb)
      (try clear hb2)
      (try clear hk)
      (try clear hi)
      refine hK.out _ _ ⟨(blk_cell BK428.out 0).trans rfl, (blk_cell BK428.out 1).trans rfl, (blk_cell BK428.out 2).trans rfl⟩ (fun hHeld => ?_)
      clear hK K
      refine norm_ (a' := ?_) ?_ ?_
      rotate_left
      · show Act.put _ (some 15) _ = _
        simp only [Act.put, List.setIfInBounds_toArray, List.set_cons_zero, List.set_cons_succ, i64_w, i32_w]
        rfl
      refine one_ (i := 3) (N := some 16) #[true, true, true, true, false, false, false, false] rfl rfl (one_of HT_.out (by kernel_rfl)) (by decide) (fun K hK => ?_)
      refine goes_ Tryd.func21 (by kernel_rfl) rfl #[.agg #[.string x429000_1, .string x429001_1, .int .i64 x429002_1], .agg #[.string t432, .string t433]] (by rfl) rfl rfl zz21 ?_
      with_reducible refine (spec_AppendRecord.calls k1 x429000_1 x429001_1 x429002_1 t432 t433 t436 t437 t438 t439 _ A11.out).mono ?_
      rintro e w17 ⟨rfl, hb⟩
      refine ⟨_, rfl, ?_⟩
      refine qs5 (blk_below (qb BK427.out) hb) (blk_below (qb BK428.out) hb) (IsS70.below zz76 hb) (KeepBut.trans zz66 (KeepBut.of_below hb g none) (.inl rfl)) (below_step zz71 hb) ?_; clear BK427 BK428 HI0 HK HB; intro BK427 BK428 HI0 HK HB
      (try clear hb)
      (try clear hb2)
      (try clear hk)
      (try clear hi)
      refine hK.out _ _ ⟨(blk_cell BK428.out 0).trans rfl, (blk_cell BK428.out 1).trans rfl, (blk_cell BK428.out 2).trans rfl⟩ (fun hHeld => ?_)
      clear hK K
      refine norm_ (a' := ?_) ?_ ?_
      rotate_left
      · show Act.put _ (some 16) _ = _
        simp only [Act.put, List.setIfInBounds_toArray, List.set_cons_zero, List.set_cons_succ, i64_w, i32_w]
        rfl
      refine qp 4 12 ?_; refine qp 5 17 ?_; refine qp 6 18 ?_
      refine last_ (i := 7) (N := none) #[true, true, true, true, true, true, true, true] rfl rfl (one_of HT_.out (by kernel_rfl)) (by decide) (fun K hK => ?_)
      have hs18 : w17.cell? ⟨gb428, 0, none⟩ = some (.string x429000_1) := (blk_cell BK428.out 0).trans rfl
      have hfs18 := blk_frozen BK428.out 0
      have hns18_0 := NB427_428.out
      have hms18_0 := NB428_427.out
      have hs19 : w17.cell? ⟨gb428, 1, none⟩ = some (.string x429001_1) := (blk_cell BK428.out 1).trans rfl
      have hfs19 := blk_frozen BK428.out 1
      have hns19_0 := NB427_428.out
      have hms19_0 := NB428_427.out
      have hs20 : w17.cell? ⟨gb428, 2, none⟩ = some (.int .i64 x429002_1) := (blk_cell BK428.out 2).trans rfl
      have hfs20 := blk_frozen BK428.out 2
      have hns20_0 := NB427_428.out
      have hms20_0 := NB428_427.out
      refine skip_ (w1 := ?_) (by rfl) rfl ?_ ?_
      rotate_left
      · go_simp
        rfl
      refine hK.out _ _ ?_
      clear hK K
      refine done_ (done_of HT_.out (by kernel_rfl)) ?_
      try go_wp2_with (first | ((with_reducible refine gate_callee (f := 56) rfl ?_); refine qcall 20 Tryd.func56 rfl #[.pointer (some ⟨g, 0, none⟩), .int .i64 4] ?_; (with_reducible refine (spec_l1Cur_one.calls g s0_0 t434 t435 4 true t441 t442 w0 _ ?side1 ?side2 A12.out).mono ?_); (case side1 => exact zz76); (case side2 => exact zz71); rintro e w21 ⟨rfl, hi, hb, hk⟩; refine ⟨_, rfl, ?_⟩; refine qs5 (KeepBut.blk hk (g' := gb427) (o := .cells #[.string (⟨#[]⟩ : ByteArray), .string (⟨#[]⟩ : ByteArray), .int .i64 0] 26 (0, 0)) zz97 NB427_0.out (by simp)) (KeepBut.blk hk (g' := gb428) (o := .cells #[.string t436, .string t437, .int .i64 t438] 26 (0, 0)) zz111 NB428_0.out (by simp)) (KeepBut.trans zz66 hk (.inl rfl)) (hb) (hi) ?_; clear BK427 BK428 HK HB HI0; intro BK427 BK428 HK HB HI0; (try clear hb); (try clear hb2); (try clear hk); (try clear hi); have hnb22 := NB428_427.out; have hnc22 := NB427_428.out; have hnb23 := NB428_0.out; have hnc23 := NB0_428.out; obtain ⟨hcz24_0, hcz24_1, hcz24_2, hfz24_0, hfz24_1, hfz24_2⟩ := qc3 BK428.out) | ((with_reducible refine gate_callee (f := 17) rfl ?_); refine qcall 23 Tryd.func17 rfl #[.agg #[.string t436, .string t437, .int .i64 t438]] ?_; (with_reducible refine (spec_SyncLog.calls k1 t436 t437 t438 t443 t444 t445 t446 _ A14.out).mono ?_); rintro e w25 ⟨rfl, hb⟩; refine ⟨_, rfl, ?_⟩; refine qs5 (blk_below (qb BK427.out) hb) (blk_below (qb BK428.out) hb) (IsS70.below zz76 hb) (KeepBut.trans zz66 (KeepBut.of_below hb g none) (.inl rfl)) (below_step zz71 hb) ?_; clear BK427 BK428 HI0 HK HB; intro BK427 BK428 HI0 HK HB; (try clear hb); (try clear hb2); (try clear hk); (try clear hi); obtain ⟨hcz26_0, hcz26_1, hcz26_2, hfz26_0, hfz26_1, hfz26_2⟩ := qc3 BK428.out))
      go_roundg k1
      case measure => have := HK1.out; omega
      case rel => exact ⟨(wrap64 (x4_1 - 1)), (t441), (t442), (t443), (t444), (t445), zz3, H', ⟨zz0⟩, ⟨zz97⟩, ⟨by (with_reducible repeat (first | refine blk_drewN ?_ _ | refine blk_drew ?_ | refine blk_alloc ?_ _)); refine blk_put (cs := #[.string t443, .string t444, .int .i64 t438]) ?_ 2 _ rfl; (with_reducible repeat (first | refine blk_drewN ?_ _ | refine blk_drew ?_ | refine blk_alloc ?_ _)); refine blk_put (cs := #[.string t443, .string t437, .int .i64 t438]) ?_ 1 _ rfl; (with_reducible repeat (first | refine blk_drewN ?_ _ | refine blk_drew ?_ | refine blk_alloc ?_ _)); refine blk_put (cs := #[.string t436, .string t437, .int .i64 t438]) ?_ 0 _ rfl; (with_reducible repeat (first | refine blk_drewN ?_ _ | refine blk_drew ?_ | refine blk_alloc ?_ _)); exact BK428.out⟩, ⟨zz76⟩, ⟨zz66⟩, ⟨zz71⟩⟩

end

end Go.Proofs.YtokmidpeeejahaaDoor.G

-- Written by a program of this session (wip/pd.py), which calls the kit's print; externals' contracts by hand.
namespace Go.Proofs.YtokmidpeeejahaaDoor.G
open Go.Proofs.YtokmidpeeejahaaDoorQ
open Go.RowKit Go.Proofs.YtokmidpeeejahaaDoorW.PrintWords Go.Proofs.YtokmidpeeejahaaDoorW.PrintLast Go.Proofs.YtokmidpeeejahaaDoorW.PrintMore
attribute [local go_sem] max2_int min2_int max_two min_two max_three min_three max_four min_four   -- for this text's walks alone
set_option linter.unusedVariables false
set_option linter.unusedSimpArgs false

section
attribute [local go_sem high] run_add_cat run_slice_cat run_slice_cat_h run_slice_cat_l run_slice_cat_all
/-! ### spec_l1Cur_spoilt: function 55 -/
def spec_l1Cur_spoilt.f (s0_0 : List Int) (s0_1 : Int) (s0_2 : Int) (a1 : ByteArray) (a2 : ByteArray) : Option (ByteArray × Int × Int) := if a1.toList = ([] : List UInt8) then (if 0 ≤ 1 then (if 1 ≤ (a2.size : Int) then (some (subs a2 0 1, s0_1, s0_2)) else (none)) else (none)) else ((spec_l1Cur_pick.f s0_0 s0_1 s0_2 (a1.size : Int)).bind fun bt447 => ((spec_l1Cur_pick.f s0_0 bt447.2.1 bt447.2.2 (a2.size : Int)).bind fun bt450 => (if 0 ≤ bt450.1 then (if bt450.1 ≤ (a2.size : Int) then (if 0 ≤ 1 then (if 1 ≤ ((subs a2 (bt450.1 : Int).toNat a2.size).size : Int) then ((spec_l1Cur_pick.f s0_0 bt450.2.1 bt450.2.2 3).bind fun bt453 => (if bt453.1 = 0 then (if 0 ≤ bt447.1 then (if bt447.1 ≤ (a1.size : Int) then (if (subs a1 0 (bt447.1 : Int).toNat).size + (subs (subs a2 (bt450.1 : Int).toNat a2.size) 0 1).size ≤ 9223372036854775807 then (if (cat (subs a1 0 (bt447.1 : Int).toNat) (subs (subs a2 (bt450.1 : Int).toNat a2.size) 0 1)).size + (subs a1 (bt447.1 : Int).toNat a1.size).size ≤ 9223372036854775807 then (some (cat (cat (subs a1 0 (bt447.1 : Int).toNat) (subs (subs a2 (bt450.1 : Int).toNat a2.size) 0 1)) (subs a1 (bt447.1 : Int).toNat a1.size), bt453.2.1, bt453.2.2)) else (none)) else (none)) else (none)) else (none)) else (if bt453.1 = 1 then (if 0 ≤ bt447.1 then (if bt447.1 ≤ (a1.size : Int) then (if (subs a1 0 (bt447.1 : Int).toNat).size + (subs (subs a2 (bt450.1 : Int).toNat a2.size) 0 1).size ≤ 9223372036854775807 then (if 0 ≤ (wrap64 (bt447.1 + 1)) then (if (wrap64 (bt447.1 + 1)) ≤ (a1.size : Int) then (if (cat (subs a1 0 (bt447.1 : Int).toNat) (subs (subs a2 (bt450.1 : Int).toNat a2.size) 0 1)).size + (subs a1 ((wrap64 (bt447.1 + 1)) : Int).toNat a1.size).size ≤ 9223372036854775807 then (some (cat (cat (subs a1 0 (bt447.1 : Int).toNat) (subs (subs a2 (bt450.1 : Int).toNat a2.size) 0 1)) (subs a1 ((wrap64 (bt447.1 + 1)) : Int).toNat a1.size), bt453.2.1, bt453.2.2)) else (none)) else (none)) else (none)) else (none)) else (none)) else (none)) else (if 0 ≤ bt447.1 then (if bt447.1 ≤ (a1.size : Int) then (if 0 ≤ (wrap64 (bt447.1 + 1)) then (if (wrap64 (bt447.1 + 1)) ≤ (a1.size : Int) then (if (subs a1 0 (bt447.1 : Int).toNat).size + (subs a1 ((wrap64 (bt447.1 + 1)) : Int).toNat a1.size).size ≤ 9223372036854775807 then (some (cat (subs a1 0 (bt447.1 : Int).toNat) (subs a1 ((wrap64 (bt447.1 + 1)) : Int).toNat a1.size), bt453.2.1, bt453.2.2)) else (none)) else (none)) else (none)) else (none)) else (none))))) else (none)) else (none)) else (none)) else (none))))
set_option maxHeartbeats 8000000 in
set_option maxRecDepth 100000 in
theorem spec_l1Cur_spoilt.calls (g : Nat) (s0_0 : List Int) (s0_1 : Int) (s0_2 : Int) (a1 : ByteArray) (a2 : ByteArray) (r1 : ByteArray) (r2 : Int) (r3 : Int) (w0 w : World) (hI : IsS70 w0 w g s0_0 s0_1 s0_2) (hB : Below w0.heap.size w0 w) (h : spec_l1Cur_spoilt.f s0_0 s0_1 s0_2 a1 a2 = some (r1, r2, r3)) :
    Calls Tryd.prog 55 #[.pointer (some ⟨g, 0, none⟩), .string a1, .string a2] w fun e w' => e = .returned (.string r1) ∧ IsS70 w0 w' g s0_0 r2 r3 ∧ Below w0.heap.size w0 w' ∧ KeepBut w w' g none := by
  have HI0 := Aside0.mk hI
  have HK := Aside0.mk (KeepBut.refl w g none)
  have HL := Aside0.mk hB.size
  clear hI
  have HW0 := Aside0.mk hB.size
  have HB := Aside0.mk hB
  clear hB
  unfold spec_l1Cur_spoilt.f at h
  have H := h
  clear h
  by_cases c4 : a1.toList = ([] : List UInt8)
  · rw [if_pos c4] at H
    have c4b0 := beq_iff_eq.mpr c4
    have c4b1 := bne_eq_false_iff_eq.mpr c4
    clear c4
    by_cases c5 : 0 ≤ 1
    rotate_left
    · rw [if_neg c5] at H
      exact absurd H (by simp)
    rw [if_pos c5] at H
    have c5b0 := eq_true c5
    have c5b1 := decide_eq_true c5
    clear c5
    by_cases c6 : 1 ≤ (a2.size : Int)
    rotate_left
    · rw [if_neg c6] at H
      exact absurd H (by simp)
    rw [if_pos c6] at H
    have c6b0 := eq_true c6
    have c6b1 := decide_eq_true c6
    clear c6
    simp only [Option.some.injEq, Prod.mk.injEq] at H
    obtain ⟨rfl, rfl, rfl⟩ := H
    go_enter Tryd.func55, Tryd.ntmps55
    go_wp2
    repeat (go_quiet (fail); try go_wp2)
    go_ret
    exact ⟨zz7, zz45, zz46, zz23⟩
  rw [if_neg c4] at H
  have c4b0 := beq_eq_false_iff_ne.mpr c4
  have c4b1 := bne_iff_ne.mpr c4
  replace H := Option.bind_eq_some_iff.mp H
  obtain ⟨⟨t447, t448, t449⟩, A70, H⟩ := H
  (try dsimp only at H)
  have A7 := Aside0.mk A70
  clear A70
  replace H := Option.bind_eq_some_iff.mp H
  obtain ⟨⟨t450, t451, t452⟩, A80, H⟩ := H
  (try dsimp only at H)
  have A8 := Aside0.mk A80
  clear A80
  by_cases c9 : 0 ≤ t450
  rotate_left
  · rw [if_neg c9] at H
    exact absurd H (by simp)
  rw [if_pos c9] at H
  have c9b0 := eq_true c9
  have c9b1 := decide_eq_true c9
  clear c9
  by_cases c10 : t450 ≤ (a2.size : Int)
  rotate_left
  · rw [if_neg c10] at H
    exact absurd H (by simp)
  rw [if_pos c10] at H
  have c10b0 := eq_true c10
  have c10b1 := decide_eq_true c10
  clear c10
  by_cases c11 : 0 ≤ 1
  rotate_left
  · rw [if_neg c11] at H
    exact absurd H (by simp)
  rw [if_pos c11] at H
  have c11b0 := eq_true c11
  have c11b1 := decide_eq_true c11
  clear c11
  by_cases c12 : 1 ≤ ((subs a2 (t450 : Int).toNat a2.size).size : Int)
  rotate_left
  · rw [if_neg c12] at H
    exact absurd H (by simp)
  rw [if_pos c12] at H
  have c12b0 := eq_true c12
  have c12b1 := decide_eq_true c12
  clear c12
  replace H := Option.bind_eq_some_iff.mp H
  obtain ⟨⟨t453, t454, t455⟩, A130, H⟩ := H
  (try dsimp only at H)
  have A13 := Aside0.mk A130
  clear A130
  by_cases c14 : t453 = 0
  · rw [if_pos c14] at H
    have c14b0 := beq_iff_eq.mpr c14
    have c14b1 := bne_eq_false_iff_eq.mpr c14
    clear c14
    by_cases c15 : 0 ≤ t447
    rotate_left
    · rw [if_neg c15] at H
      exact absurd H (by simp)
    rw [if_pos c15] at H
    have c15b0 := eq_true c15
    have c15b1 := decide_eq_true c15
    clear c15
    by_cases c16 : t447 ≤ (a1.size : Int)
    rotate_left
    · rw [if_neg c16] at H
      exact absurd H (by simp)
    rw [if_pos c16] at H
    have c16b0 := eq_true c16
    have c16b1 := decide_eq_true c16
    clear c16
    by_cases c17 : (subs a1 0 (t447 : Int).toNat).size + (subs (subs a2 (t450 : Int).toNat a2.size) 0 1).size ≤ 9223372036854775807
    rotate_left
    · rw [if_neg c17] at H
      exact absurd H (by simp)
    rw [if_pos c17] at H
    have c17b0 := eq_true c17
    have c17b1 := decide_eq_true c17
    try have c17b2 := eq_false (Nat.not_lt.2 c17)
    clear c17
    have c18b0 := eq_true (of_decide_eq_true zz4 : 0 ≤ t447)
    have c19b0 := eq_true (of_decide_eq_true zz4 : t447 ≤ (a1.size : Int))
    by_cases c20 : (cat (subs a1 0 (t447 : Int).toNat) (subs (subs a2 (t450 : Int).toNat a2.size) 0 1)).size + (subs a1 (t447 : Int).toNat a1.size).size ≤ 9223372036854775807
    rotate_left
    · rw [if_neg c20] at H
      exact absurd H (by simp)
    rw [if_pos c20] at H
    have c20b0 := eq_true c20
    have c20b1 := decide_eq_true c20
    try have c20b2 := eq_false (Nat.not_lt.2 c20)
    clear c20
    simp only [Option.some.injEq, Prod.mk.injEq] at H
    obtain ⟨rfl, rfl, rfl⟩ := H
    go_enter Tryd.func55, Tryd.ntmps55
    go_wp2_with (first | (go_at_call 54; (with_reducible refine (spec_l1Cur_pick.calls g s0_0 s0_1 s0_2 (a1.size : Int) t447 t448 t449 w0 _ ?side1 ?side2 A7.out).mono ?_); (case side1 => exact zz45); (case side2 => exact zz46); rintro e w21 ⟨rfl, hi, hb, hk⟩; refine qs3 (KeepBut.trans zz23 hk (.inl rfl)) (hb) (hi) ?_; clear HK HB HI0; intro HK HB HI0; (try clear hb); (try clear hb2); (try clear hk); (try clear hi)) | (go_at_call 54; (with_reducible refine (spec_l1Cur_pick.calls g s0_0 t448 t449 (a2.size : Int) t450 t451 t452 w0 _ ?side1 ?side2 A8.out).mono ?_); (case side1 => exact zz45); (case side2 => exact zz46); rintro e w22 ⟨rfl, hi, hb, hk⟩; refine qs3 (KeepBut.trans zz23 hk (.inl rfl)) (hb) (hi) ?_; clear HK HB HI0; intro HK HB HI0; (try clear hb); (try clear hb2); (try clear hk); (try clear hi)) | (go_at_call 54; (with_reducible refine (spec_l1Cur_pick.calls g s0_0 t451 t452 3 t453 t454 t455 w0 _ ?side1 ?side2 A13.out).mono ?_); (case side1 => exact zz45); (case side2 => exact zz46); rintro e w23 ⟨rfl, hi, hb, hk⟩; refine qs3 (KeepBut.trans zz23 hk (.inl rfl)) (hb) (hi) ?_; clear HK HB HI0; intro HK HB HI0; (try clear hb); (try clear hb2); (try clear hk); (try clear hi)))
    repeat (go_quiet (first | (go_at_call 54; (with_reducible refine (spec_l1Cur_pick.calls g s0_0 s0_1 s0_2 (a1.size : Int) t447 t448 t449 w0 _ ?side1 ?side2 A7.out).mono ?_); (case side1 => exact zz45); (case side2 => exact zz46); rintro e w21 ⟨rfl, hi, hb, hk⟩; refine qs3 (KeepBut.trans zz23 hk (.inl rfl)) (hb) (hi) ?_; clear HK HB HI0; intro HK HB HI0; (try clear hb); (try clear hb2); (try clear hk); (try clear hi)) | (go_at_call 54; (with_reducible refine (spec_l1Cur_pick.calls g s0_0 t448 t449 (a2.size : Int) t450 t451 t452 w0 _ ?side1 ?side2 A8.out).mono ?_); (case side1 => exact zz45); (case side2 => exact zz46); rintro e w22 ⟨rfl, hi, hb, hk⟩; refine qs3 (KeepBut.trans zz23 hk (.inl rfl)) (hb) (hi) ?_; clear HK HB HI0; intro HK HB HI0; (try clear hb); (try clear hb2); (try clear hk); (try clear hi)) | (go_at_call 54; (with_reducible refine (spec_l1Cur_pick.calls g s0_0 t451 t452 3 t453 t454 t455 w0 _ ?side1 ?side2 A13.out).mono ?_); (case side1 => exact zz45); (case side2 => exact zz46); rintro e w23 ⟨rfl, hi, hb, hk⟩; refine qs3 (KeepBut.trans zz23 hk (.inl rfl)) (hb) (hi) ?_; clear HK HB HI0; intro HK HB HI0; (try clear hb); (try clear hb2); (try clear hk); (try clear hi))); try go_wp2_with (first | (go_at_call 54; (with_reducible refine (spec_l1Cur_pick.calls g s0_0 s0_1 s0_2 (a1.size : Int) t447 t448 t449 w0 _ ?side1 ?side2 A7.out).mono ?_); (case side1 => exact zz45); (case side2 => exact zz46); rintro e w21 ⟨rfl, hi, hb, hk⟩; refine qs3 (KeepBut.trans zz23 hk (.inl rfl)) (hb) (hi) ?_; clear HK HB HI0; intro HK HB HI0; (try clear hb); (try clear hb2); (try clear hk); (try clear hi)) | (go_at_call 54; (with_reducible refine (spec_l1Cur_pick.calls g s0_0 t448 t449 (a2.size : Int) t450 t451 t452 w0 _ ?side1 ?side2 A8.out).mono ?_); (case side1 => exact zz45); (case side2 => exact zz46); rintro e w22 ⟨rfl, hi, hb, hk⟩; refine qs3 (KeepBut.trans zz23 hk (.inl rfl)) (hb) (hi) ?_; clear HK HB HI0; intro HK HB HI0; (try clear hb); (try clear hb2); (try clear hk); (try clear hi)) | (go_at_call 54; (with_reducible refine (spec_l1Cur_pick.calls g s0_0 t451 t452 3 t453 t454 t455 w0 _ ?side1 ?side2 A13.out).mono ?_); (case side1 => exact zz45); (case side2 => exact zz46); rintro e w23 ⟨rfl, hi, hb, hk⟩; refine qs3 (KeepBut.trans zz23 hk (.inl rfl)) (hb) (hi) ?_; clear HK HB HI0; intro HK HB HI0; (try clear hb); (try clear hb2); (try clear hk); (try clear hi))))
    go_ret
    exact ⟨zz7, zz45, zz46, zz23⟩
  rw [if_neg c14] at H
  have c14b0 := beq_eq_false_iff_ne.mpr c14
  have c14b1 := bne_iff_ne.mpr c14
  by_cases c24 : t453 = 1
  rotate_left
  · rw [if_neg c24] at H
    have c24b0 := beq_eq_false_iff_ne.mpr c24
    have c24b1 := bne_iff_ne.mpr c24
    by_cases c35 : 0 ≤ t447
    rotate_left
    · rw [if_neg c35] at H
      exact absurd H (by simp)
    rw [if_pos c35] at H
    have c35b0 := eq_true c35
    have c35b1 := decide_eq_true c35
    clear c35
    by_cases c36 : t447 ≤ (a1.size : Int)
    rotate_left
    · rw [if_neg c36] at H
      exact absurd H (by simp)
    rw [if_pos c36] at H
    have c36b0 := eq_true c36
    have c36b1 := decide_eq_true c36
    clear c36
    obtain ⟨ji37, hji37⟩ : ∃ j_ : Int, (wrap64 (t447 + 1)) = j_ := ⟨_, rfl⟩
    replace H : (if 0 ≤ (ji37) then (if (ji37) ≤ (a1.size : Int) then (if (subs a1 0 (t447 : Int).toNat).size + (subs a1 ((ji37) : Int).toNat a1.size).size ≤ 9223372036854775807 then (some (cat (subs a1 0 (t447 : Int).toNat) (subs a1 ((ji37) : Int).toNat a1.size), t454, t455)) else (none)) else (none)) else (none)) = some (r1, r2, r3) := by first | (rw [hji37] at H; exact H) | (simp only [hji37] at H ⊢; exact H)
    (try rw [hji37] at A7)
    (try rw [hji37] at A8)
    (try rw [hji37] at A13)
    have hji37w : (IntKind.i64.wrap (t447 + 1)) = ji37 := (i64_w _).trans hji37
    by_cases c38 : 0 ≤ (ji37)
    rotate_left
    · rw [if_neg c38] at H
      exact absurd H (by simp)
    rw [if_pos c38] at H
    have c38b0 := eq_true c38
    have c38b1 := decide_eq_true c38
    clear c38
    by_cases c39 : (ji37) ≤ (a1.size : Int)
    rotate_left
    · rw [if_neg c39] at H
      exact absurd H (by simp)
    rw [if_pos c39] at H
    have c39b0 := eq_true c39
    have c39b1 := decide_eq_true c39
    clear c39
    by_cases c40 : (subs a1 0 (t447 : Int).toNat).size + (subs a1 ((ji37) : Int).toNat a1.size).size ≤ 9223372036854775807
    rotate_left
    · rw [if_neg c40] at H
      exact absurd H (by simp)
    rw [if_pos c40] at H
    have c40b0 := eq_true c40
    have c40b1 := decide_eq_true c40
    try have c40b2 := eq_false (Nat.not_lt.2 c40)
    clear c40
    simp only [Option.some.injEq, Prod.mk.injEq] at H
    obtain ⟨rfl, rfl, rfl⟩ := H
    go_enter Tryd.func55, Tryd.ntmps55
    go_wp2_with (first | (go_at_call 54; (with_reducible refine (spec_l1Cur_pick.calls g s0_0 s0_1 s0_2 (a1.size : Int) t447 t448 t449 w0 _ ?side1 ?side2 A7.out).mono ?_); (case side1 => exact zz45); (case side2 => exact zz46); rintro e w41 ⟨rfl, hi, hb, hk⟩; refine qs3 (KeepBut.trans zz23 hk (.inl rfl)) (hb) (hi) ?_; clear HK HB HI0; intro HK HB HI0; (try clear hb); (try clear hb2); (try clear hk); (try clear hi)) | (go_at_call 54; (with_reducible refine (spec_l1Cur_pick.calls g s0_0 t448 t449 (a2.size : Int) t450 t451 t452 w0 _ ?side1 ?side2 A8.out).mono ?_); (case side1 => exact zz45); (case side2 => exact zz46); rintro e w42 ⟨rfl, hi, hb, hk⟩; refine qs3 (KeepBut.trans zz23 hk (.inl rfl)) (hb) (hi) ?_; clear HK HB HI0; intro HK HB HI0; (try clear hb); (try clear hb2); (try clear hk); (try clear hi)) | (go_at_call 54; (with_reducible refine (spec_l1Cur_pick.calls g s0_0 t451 t452 3 t453 t454 t455 w0 _ ?side1 ?side2 A13.out).mono ?_); (case side1 => exact zz45); (case side2 => exact zz46); rintro e w43 ⟨rfl, hi, hb, hk⟩; refine qs3 (KeepBut.trans zz23 hk (.inl rfl)) (hb) (hi) ?_; clear HK HB HI0; intro HK HB HI0; (try clear hb); (try clear hb2); (try clear hk); (try clear hi)))
    repeat (go_quiet (first | (go_at_call 54; (with_reducible refine (spec_l1Cur_pick.calls g s0_0 s0_1 s0_2 (a1.size : Int) t447 t448 t449 w0 _ ?side1 ?side2 A7.out).mono ?_); (case side1 => exact zz45); (case side2 => exact zz46); rintro e w41 ⟨rfl, hi, hb, hk⟩; refine qs3 (KeepBut.trans zz23 hk (.inl rfl)) (hb) (hi) ?_; clear HK HB HI0; intro HK HB HI0; (try clear hb); (try clear hb2); (try clear hk); (try clear hi)) | (go_at_call 54; (with_reducible refine (spec_l1Cur_pick.calls g s0_0 t448 t449 (a2.size : Int) t450 t451 t452 w0 _ ?side1 ?side2 A8.out).mono ?_); (case side1 => exact zz45); (case side2 => exact zz46); rintro e w42 ⟨rfl, hi, hb, hk⟩; refine qs3 (KeepBut.trans zz23 hk (.inl rfl)) (hb) (hi) ?_; clear HK HB HI0; intro HK HB HI0; (try clear hb); (try clear hb2); (try clear hk); (try clear hi)) | (go_at_call 54; (with_reducible refine (spec_l1Cur_pick.calls g s0_0 t451 t452 3 t453 t454 t455 w0 _ ?side1 ?side2 A13.out).mono ?_); (case side1 => exact zz45); (case side2 => exact zz46); rintro e w43 ⟨rfl, hi, hb, hk⟩; refine qs3 (KeepBut.trans zz23 hk (.inl rfl)) (hb) (hi) ?_; clear HK HB HI0; intro HK HB HI0; (try clear hb); (try clear hb2); (try clear hk); (try clear hi))); try go_wp2_with (first | (go_at_call 54; (with_reducible refine (spec_l1Cur_pick.calls g s0_0 s0_1 s0_2 (a1.size : Int) t447 t448 t449 w0 _ ?side1 ?side2 A7.out).mono ?_); (case side1 => exact zz45); (case side2 => exact zz46); rintro e w41 ⟨rfl, hi, hb, hk⟩; refine qs3 (KeepBut.trans zz23 hk (.inl rfl)) (hb) (hi) ?_; clear HK HB HI0; intro HK HB HI0; (try clear hb); (try clear hb2); (try clear hk); (try clear hi)) | (go_at_call 54; (with_reducible refine (spec_l1Cur_pick.calls g s0_0 t448 t449 (a2.size : Int) t450 t451 t452 w0 _ ?side1 ?side2 A8.out).mono ?_); (case side1 => exact zz45); (case side2 => exact zz46); rintro e w42 ⟨rfl, hi, hb, hk⟩; refine qs3 (KeepBut.trans zz23 hk (.inl rfl)) (hb) (hi) ?_; clear HK HB HI0; intro HK HB HI0; (try clear hb); (try clear hb2); (try clear hk); (try clear hi)) | (go_at_call 54; (with_reducible refine (spec_l1Cur_pick.calls g s0_0 t451 t452 3 t453 t454 t455 w0 _ ?side1 ?side2 A13.out).mono ?_); (case side1 => exact zz45); (case side2 => exact zz46); rintro e w43 ⟨rfl, hi, hb, hk⟩; refine qs3 (KeepBut.trans zz23 hk (.inl rfl)) (hb) (hi) ?_; clear HK HB HI0; intro HK HB HI0; (try clear hb); (try clear hb2); (try clear hk); (try clear hi))))
    go_ret
    exact ⟨by first | rfl | (simp [errW_none, errW_some] <;> rfl) | (simp only [← hji37]; first | rfl | (simp [errW_none, errW_some] <;> rfl)) | (simp [*, errW_none, errW_some] <;> rfl), zz45, zz46, zz23⟩
  rw [if_pos c24] at H
  have c24b0 := beq_iff_eq.mpr c24
  have c24b1 := bne_eq_false_iff_eq.mpr c24
  clear c24
  by_cases c25 : 0 ≤ t447
  rotate_left
  · rw [if_neg c25] at H
    exact absurd H (by simp)
  rw [if_pos c25] at H
  have c25b0 := eq_true c25
  have c25b1 := decide_eq_true c25
  clear c25
  by_cases c26 : t447 ≤ (a1.size : Int)
  rotate_left
  · rw [if_neg c26] at H
    exact absurd H (by simp)
  rw [if_pos c26] at H
  have c26b0 := eq_true c26
  have c26b1 := decide_eq_true c26
  clear c26
  by_cases c27 : (subs a1 0 (t447 : Int).toNat).size + (subs (subs a2 (t450 : Int).toNat a2.size) 0 1).size ≤ 9223372036854775807
  rotate_left
  · rw [if_neg c27] at H
    exact absurd H (by simp)
  rw [if_pos c27] at H
  have c27b0 := eq_true c27
  have c27b1 := decide_eq_true c27
  try have c27b2 := eq_false (Nat.not_lt.2 c27)
  clear c27
  obtain ⟨ji28, hji28⟩ : ∃ j_ : Int, (wrap64 (t447 + 1)) = j_ := ⟨_, rfl⟩
  replace H : (if 0 ≤ (ji28) then (if (ji28) ≤ (a1.size : Int) then (if (cat (subs a1 0 (t447 : Int).toNat) (subs (subs a2 (t450 : Int).toNat a2.size) 0 1)).size + (subs a1 ((ji28) : Int).toNat a1.size).size ≤ 9223372036854775807 then (some (cat (cat (subs a1 0 (t447 : Int).toNat) (subs (subs a2 (t450 : Int).toNat a2.size) 0 1)) (subs a1 ((ji28) : Int).toNat a1.size), t454, t455)) else (none)) else (none)) else (none)) = some (r1, r2, r3) := by first | (rw [hji28] at H; exact H) | (simp only [hji28] at H ⊢; exact H)
  (try rw [hji28] at A7)
  (try rw [hji28] at A8)
  (try rw [hji28] at A13)
  have hji28w : (IntKind.i64.wrap (t447 + 1)) = ji28 := (i64_w _).trans hji28
  by_cases c29 : 0 ≤ (ji28)
  rotate_left
  · rw [if_neg c29] at H
    exact absurd H (by simp)
  rw [if_pos c29] at H
  have c29b0 := eq_true c29
  have c29b1 := decide_eq_true c29
  clear c29
  by_cases c30 : (ji28) ≤ (a1.size : Int)
  rotate_left
  · rw [if_neg c30] at H
    exact absurd H (by simp)
  rw [if_pos c30] at H
  have c30b0 := eq_true c30
  have c30b1 := decide_eq_true c30
  clear c30
  by_cases c31 : (cat (subs a1 0 (t447 : Int).toNat) (subs (subs a2 (t450 : Int).toNat a2.size) 0 1)).size + (subs a1 ((ji28) : Int).toNat a1.size).size ≤ 9223372036854775807
  rotate_left
  · rw [if_neg c31] at H
    exact absurd H (by simp)
  rw [if_pos c31] at H
  have c31b0 := eq_true c31
  have c31b1 := decide_eq_true c31
  try have c31b2 := eq_false (Nat.not_lt.2 c31)
  clear c31
  simp only [Option.some.injEq, Prod.mk.injEq] at H
  obtain ⟨rfl, rfl, rfl⟩ := H
  go_enter Tryd.func55, Tryd.ntmps55
  go_wp2_with (first | (go_at_call 54; (with_reducible refine (spec_l1Cur_pick.calls g s0_0 s0_1 s0_2 (a1.size : Int) t447 t448 t449 w0 _ ?side1 ?side2 A7.out).mono ?_); (case side1 => exact zz45); (case side2 => exact zz46); rintro e w32 ⟨rfl, hi, hb, hk⟩; refine qs3 (KeepBut.trans zz23 hk (.inl rfl)) (hb) (hi) ?_; clear HK HB HI0; intro HK HB HI0; (try clear hb); (try clear hb2); (try clear hk); (try clear hi)) | (go_at_call 54; (with_reducible refine (spec_l1Cur_pick.calls g s0_0 t448 t449 (a2.size : Int) t450 t451 t452 w0 _ ?side1 ?side2 A8.out).mono ?_); (case side1 => exact zz45); (case side2 => exact zz46); rintro e w33 ⟨rfl, hi, hb, hk⟩; refine qs3 (KeepBut.trans zz23 hk (.inl rfl)) (hb) (hi) ?_; clear HK HB HI0; intro HK HB HI0; (try clear hb); (try clear hb2); (try clear hk); (try clear hi)) | (go_at_call 54; (with_reducible refine (spec_l1Cur_pick.calls g s0_0 t451 t452 3 t453 t454 t455 w0 _ ?side1 ?side2 A13.out).mono ?_); (case side1 => exact zz45); (case side2 => exact zz46); rintro e w34 ⟨rfl, hi, hb, hk⟩; refine qs3 (KeepBut.trans zz23 hk (.inl rfl)) (hb) (hi) ?_; clear HK HB HI0; intro HK HB HI0; (try clear hb); (try clear hb2); (try clear hk); (try clear hi)))
  repeat (go_quiet (first | (go_at_call 54; (with_reducible refine (spec_l1Cur_pick.calls g s0_0 s0_1 s0_2 (a1.size : Int) t447 t448 t449 w0 _ ?side1 ?side2 A7.out).mono ?_); (case side1 => exact zz45); (case side2 => exact zz46); rintro e w32 ⟨rfl, hi, hb, hk⟩; refine qs3 (KeepBut.trans zz23 hk (.inl rfl)) (hb) (hi) ?_; clear HK HB HI0; intro HK HB HI0; (try clear hb); (try clear hb2); (try clear hk); (try clear hi)) | (go_at_call 54; (with_reducible refine (spec_l1Cur_pick.calls g s0_0 t448 t449 (a2.size : Int) t450 t451 t452 w0 _ ?side1 ?side2 A8.out).mono ?_); (case side1 => exact zz45); (case side2 => exact zz46); rintro e w33 ⟨rfl, hi, hb, hk⟩; refine qs3 (KeepBut.trans zz23 hk (.inl rfl)) (hb) (hi) ?_; clear HK HB HI0; intro HK HB HI0; (try clear hb); (try clear hb2); (try clear hk); (try clear hi)) | (go_at_call 54; (with_reducible refine (spec_l1Cur_pick.calls g s0_0 t451 t452 3 t453 t454 t455 w0 _ ?side1 ?side2 A13.out).mono ?_); (case side1 => exact zz45); (case side2 => exact zz46); rintro e w34 ⟨rfl, hi, hb, hk⟩; refine qs3 (KeepBut.trans zz23 hk (.inl rfl)) (hb) (hi) ?_; clear HK HB HI0; intro HK HB HI0; (try clear hb); (try clear hb2); (try clear hk); (try clear hi))); try go_wp2_with (first | (go_at_call 54; (with_reducible refine (spec_l1Cur_pick.calls g s0_0 s0_1 s0_2 (a1.size : Int) t447 t448 t449 w0 _ ?side1 ?side2 A7.out).mono ?_); (case side1 => exact zz45); (case side2 => exact zz46); rintro e w32 ⟨rfl, hi, hb, hk⟩; refine qs3 (KeepBut.trans zz23 hk (.inl rfl)) (hb) (hi) ?_; clear HK HB HI0; intro HK HB HI0; (try clear hb); (try clear hb2); (try clear hk); (try clear hi)) | (go_at_call 54; (with_reducible refine (spec_l1Cur_pick.calls g s0_0 t448 t449 (a2.size : Int) t450 t451 t452 w0 _ ?side1 ?side2 A8.out).mono ?_); (case side1 => exact zz45); (case side2 => exact zz46); rintro e w33 ⟨rfl, hi, hb, hk⟩; refine qs3 (KeepBut.trans zz23 hk (.inl rfl)) (hb) (hi) ?_; clear HK HB HI0; intro HK HB HI0; (try clear hb); (try clear hb2); (try clear hk); (try clear hi)) | (go_at_call 54; (with_reducible refine (spec_l1Cur_pick.calls g s0_0 t451 t452 3 t453 t454 t455 w0 _ ?side1 ?side2 A13.out).mono ?_); (case side1 => exact zz45); (case side2 => exact zz46); rintro e w34 ⟨rfl, hi, hb, hk⟩; refine qs3 (KeepBut.trans zz23 hk (.inl rfl)) (hb) (hi) ?_; clear HK HB HI0; intro HK HB HI0; (try clear hb); (try clear hb2); (try clear hk); (try clear hi))))
  go_ret
  exact ⟨by first | rfl | (simp [errW_none, errW_some] <;> rfl) | (simp only [← hji28]; first | rfl | (simp [errW_none, errW_some] <;> rfl)) | (simp [*, errW_none, errW_some] <;> rfl), zz45, zz46, zz23⟩

end

section
attribute [local go_sem high] run_add_cat run_slice_cat run_slice_cat_h run_slice_cat_l run_slice_cat_all
/-! ### spec_DrawRecoverLog: function 33 -/
end

section
attribute [local go_sem high] run_add_cat run_slice_cat run_slice_cat_h run_slice_cat_l run_slice_cat_all
/-! ### impl_RecoverLog: function 34 -/
def impl_RecoverLog.f (k : Nat) (a0 : ByteArray) : Option (ByteArray × ByteArray × Int × Int × Bool) := if (a0.size : Int) > 30000 then (some ((⟨#[]⟩ : ByteArray), (⟨#[]⟩ : ByteArray), 0, 0, false)) else ((impl_readLog.f k a0).bind fun bt490 => (if (bt490.2.length : Int) > 0 then (if 0 ≤ (wrap64 ((bt490.2.length : Int) - 1)) then (if (wrap64 ((bt490.2.length : Int) - 1)) < (bt490.2.length : Int) then (if 0 ≤ (rd bt490.2 (wrap64 ((bt490.2.length : Int) - 1))) then (if (rd bt490.2 (wrap64 ((bt490.2.length : Int) - 1))) ≤ (a0.size : Int) then (some (subs a0 0 ((rd bt490.2 (wrap64 ((bt490.2.length : Int) - 1))) : Int).toNat, (⟨#[]⟩ : ByteArray), (bt490.1.length : Int), rd bt490.2 (wrap64 ((bt490.2.length : Int) - 1)), true)) else (none)) else (none)) else (none)) else (none)) else (if 0 ≤ 0 then (if 0 ≤ (a0.size : Int) then (some (subs a0 0 0, (⟨#[]⟩ : ByteArray), (bt490.1.length : Int), 0, true)) else (none)) else (none))))
set_option maxHeartbeats 8000000 in
set_option maxRecDepth 100000 in
theorem impl_RecoverLog.calls (k : Nat) (a0 : ByteArray) (r1 : ByteArray) (r2 : ByteArray) (r3 : Int) (r4 : Int) (r5 : Bool) (w : World) (hG : Gl w) (h : impl_RecoverLog.f k a0 = some (r1, r2, r3, r4, r5)) :
    Calls Tryd.prog 34 #[.string a0] w fun e w' => e = .returned (.tuple #[.agg #[.string r1, .string r2, .int .i64 r3], .int .i64 r4, .bool r5]) ∧ Below w.heap.size w w' := by
  have hu26 := Tryd.underlying26
  have HG := Aside0.mk hG
  clear hG
  have HB := Aside0.mk (Below.refl w.heap.size w)
  unfold impl_RecoverLog.f at h
  have H := h
  clear h
  by_cases c2 : (a0.size : Int) > 30000
  · rw [if_pos c2] at H
    have c2b0 := decide_eq_true c2
    have c2b1 : decide (30000 < a0.size) = true := decide_eq_true (by omega)
    clear c2
    simp only [Option.some.injEq, Prod.mk.injEq] at H
    obtain ⟨rfl, rfl, rfl, rfl, rfl⟩ := H
    go_enter Tryd.func34, Tryd.ntmps34
    go_wp2_with (first | ((with_reducible refine gate_dst (N := 2) rfl ?_); refine qbox (N := 2) (cs := #[.string (⟨#[]⟩ : ByteArray), .string (⟨#[]⟩ : ByteArray), .int .i64 0]) (t := 26) ?_; intro gb489 hg w3 hbox hb; refine qs4 (below_step zz20 hb) (hbox) ((zz119 : w.heap.size ≤ gb489)) ((zz119 : w.heap.size ≤ gb489)) ?_; clear HB; intro HB BK489 GW489 GE489; clear hb hbox hg; obtain ⟨hcz4_0, hcz4_1, hcz4_2, hfz4_0, hfz4_1, hfz4_2⟩ := qc3 BK489.out))
    refine bodyPost_ret (results_ctt rfl _ _ gb489 26 #[.string (⟨#[]⟩ : ByteArray), .string (⟨#[]⟩ : ByteArray), .int .i64 0] (0, 0) _ rfl (by (with_reducible repeat (first | refine blk_drewN ?_ _ | refine blk_drew ?_ | refine blk_alloc ?_ _)); refine blk_put (cs := #[.string (⟨#[]⟩ : ByteArray), .string (⟨#[]⟩ : ByteArray), .int .i64 0]) ?_ 2 _ rfl; (with_reducible repeat (first | refine blk_drewN ?_ _ | refine blk_drew ?_ | refine blk_alloc ?_ _)); refine blk_put (cs := #[.string (⟨#[]⟩ : ByteArray), .string (⟨#[]⟩ : ByteArray), .int .i64 0]) ?_ 1 _ rfl; (with_reducible repeat (first | refine blk_drewN ?_ _ | refine blk_drew ?_ | refine blk_alloc ?_ _)); refine blk_put (cs := #[.string (⟨#[]⟩ : ByteArray), .string (⟨#[]⟩ : ByteArray), .int .i64 0]) ?_ 0 _ rfl; (with_reducible repeat (first | refine blk_drewN ?_ _ | refine blk_drew ?_ | refine blk_alloc ?_ _)); exact BK489.out) Tryd.underlying26 rfl (by kernel_rfl)) rfl ?_
    exact ⟨zz7, zz29⟩
  rw [if_neg c2] at H
  have c2b0 := decide_eq_false c2
  have c2b1 : decide (30000 < a0.size) = false := decide_eq_false (by omega)
  clear c2
  replace H := Option.bind_eq_some_iff.mp H
  obtain ⟨⟨t490, t491⟩, A50, H⟩ := H
  (try dsimp only at H)
  have A5 := Aside0.mk A50
  clear A50
  by_cases c6 : (t491.length : Int) > 0
  rotate_left
  · rw [if_neg c6] at H
    have c6b0 := decide_eq_false c6
    have c6b1 : decide (0 < t491.length) = false := decide_eq_false (by omega)
    clear c6
    by_cases c17 : 0 ≤ 0
    rotate_left
    · rw [if_neg c17] at H
      exact absurd H (by simp)
    rw [if_pos c17] at H
    have c17b0 := eq_true c17
    have c17b1 := decide_eq_true c17
    clear c17
    by_cases c18 : 0 ≤ (a0.size : Int)
    rotate_left
    · rw [if_neg c18] at H
      exact absurd H (by simp)
    rw [if_pos c18] at H
    have c18b0 := eq_true c18
    have c18b1 := decide_eq_true c18
    clear c18
    simp only [Option.some.injEq, Prod.mk.injEq] at H
    obtain ⟨rfl, rfl, rfl, rfl, rfl⟩ := H
    go_enter Tryd.func34, Tryd.ntmps34
    go_wp2_with (first | ((with_reducible refine gate_dst (N := 2) rfl ?_); refine qbox (N := 2) (cs := #[.string (⟨#[]⟩ : ByteArray), .string (⟨#[]⟩ : ByteArray), .int .i64 0]) (t := 26) ?_; intro gb489 hg w19 hbox hb; refine qs4 (below_step zz20 hb) (hbox) ((zz119 : w.heap.size ≤ gb489)) ((zz119 : w.heap.size ≤ gb489)) ?_; clear HB; intro HB BK489 GW489 GE489; clear hb hbox hg) | ((with_reducible refine gate_callee (f := 57) rfl ?_); refine qcall 14 Tryd.func57 rfl #[.string a0] ?_; (with_reducible refine (impl_readLog.calls k a0 t490 t491 _ ?side1 A5.out).mono ?_); (case side1 => exact Gl.below HG.out zz29); rintro e w20 ⟨v492, v494, rfl, ho0, ho1, hb⟩; refine ⟨_, rfl, ?_⟩; refine qs4 (Kd.R_lower ho0 (below_size zz29)) (Kd.R_lower ho1 (below_size zz29)) (blk_below (qb BK489.out) hb) (below_step zz29 hb) ?_; clear BK489 HB; intro HO493 HO495 BK489 HB; (try clear hb); (try clear hb2); (try clear hk); (try clear hi); (try clear ho0); (try clear ho1); obtain ⟨Ao21, co21, eo21⟩ := Kd.R_slice HO495.out; subst eo21; obtain ⟨Ao22, co22, eo22⟩ := Kd.R_slice HO493.out; subst eo22; obtain ⟨hcz23_0, hcz23_1, hcz23_2, hfz23_0, hfz23_1, hfz23_2⟩ := qc3 BK489.out))
    refine bodyPost_ret (results_ctt rfl _ _ gb489 26 #[.string (subs a0 0 0), .string (⟨#[]⟩ : ByteArray), .int .i64 (t490.length : Int)] (0, 0) _ rfl (by (with_reducible repeat (first | refine blk_drewN ?_ _ | refine blk_drew ?_ | refine blk_alloc ?_ _)); refine blk_put (cs := #[.string (subs a0 0 0), .string (⟨#[]⟩ : ByteArray), .int .i64 0]) ?_ 2 _ rfl; (with_reducible repeat (first | refine blk_drewN ?_ _ | refine blk_drew ?_ | refine blk_alloc ?_ _)); refine blk_put (cs := #[.string (subs a0 0 0), .string (⟨#[]⟩ : ByteArray), .int .i64 0]) ?_ 1 _ rfl; (with_reducible repeat (first | refine blk_drewN ?_ _ | refine blk_drew ?_ | refine blk_alloc ?_ _)); refine blk_put (cs := #[.string (⟨#[]⟩ : ByteArray), .string (⟨#[]⟩ : ByteArray), .int .i64 0]) ?_ 0 _ rfl; (with_reducible repeat (first | refine blk_drewN ?_ _ | refine blk_drew ?_ | refine blk_alloc ?_ _)); exact BK489.out) Tryd.underlying26 rfl (by kernel_rfl)) rfl ?_
    exact ⟨zz7, zz29⟩
  rw [if_pos c6] at H
  have c6b0 := decide_eq_true c6
  have c6b1 : decide (0 < t491.length) = true := decide_eq_true (by omega)
  clear c6
  obtain ⟨ji7, hji7⟩ : ∃ j_ : Int, (wrap64 ((t491.length : Int) - 1)) = j_ := ⟨_, rfl⟩
  replace H : (if 0 ≤ (ji7) then (if (ji7) < (t491.length : Int) then (if 0 ≤ (rd t491 (ji7)) then (if (rd t491 (ji7)) ≤ (a0.size : Int) then (some (subs a0 0 ((rd t491 (ji7)) : Int).toNat, (⟨#[]⟩ : ByteArray), (t490.length : Int), rd t491 (ji7), true)) else (none)) else (none)) else (none)) else (none)) = some (r1, r2, r3, r4, r5) := by first | (rw [hji7] at H; exact H) | (simp only [hji7] at H ⊢; exact H)
  (try rw [hji7] at A5)
  have hji7w : (IntKind.i64.wrap ((t491.length : Int) - 1)) = ji7 := (i64_w _).trans hji7
  by_cases c8 : 0 ≤ (ji7)
  rotate_left
  · rw [if_neg c8] at H
    exact absurd H (by simp)
  rw [if_pos c8] at H
  have c8b0 := decide_eq_true c8
  clear c8
  by_cases c9 : (ji7) < (t491.length : Int)
  rotate_left
  · rw [if_neg c9] at H
    exact absurd H (by simp)
  rw [if_pos c9] at H
  have c9b0 := decide_eq_true c9
  clear c9
  by_cases c10 : 0 ≤ (rd t491 (ji7))
  rotate_left
  · rw [if_neg c10] at H
    exact absurd H (by simp)
  rw [if_pos c10] at H
  have c10b0 := eq_true c10
  have c10b1 := decide_eq_true c10
  clear c10
  by_cases c11 : (rd t491 (ji7)) ≤ (a0.size : Int)
  rotate_left
  · rw [if_neg c11] at H
    exact absurd H (by simp)
  rw [if_pos c11] at H
  have c11b0 := eq_true c11
  have c11b1 := decide_eq_true c11
  clear c11
  simp only [Option.some.injEq, Prod.mk.injEq] at H
  obtain ⟨rfl, rfl, rfl, rfl, rfl⟩ := H
  go_enter Tryd.func34, Tryd.ntmps34
  go_wp2_with (first | ((with_reducible refine gate_dst (N := 2) rfl ?_); refine qbox (N := 2) (cs := #[.string (⟨#[]⟩ : ByteArray), .string (⟨#[]⟩ : ByteArray), .int .i64 0]) (t := 26) ?_; intro gb489 hg w12 hbox hb; refine qs4 (below_step zz20 hb) (hbox) ((zz119 : w.heap.size ≤ gb489)) ((zz119 : w.heap.size ≤ gb489)) ?_; clear HB; intro HB BK489 GW489 GE489; clear hb hbox hg) | ((with_reducible refine gate_callee (f := 57) rfl ?_); refine qcall 14 Tryd.func57 rfl #[.string a0] ?_; (with_reducible refine (impl_readLog.calls k a0 t490 t491 _ ?side1 A5.out).mono ?_); (case side1 => exact Gl.below HG.out zz29); rintro e w13 ⟨v492, v494, rfl, ho0, ho1, hb⟩; refine ⟨_, rfl, ?_⟩; refine qs4 (Kd.R_lower ho0 (below_size zz29)) (Kd.R_lower ho1 (below_size zz29)) (blk_below (qb BK489.out) hb) (below_step zz29 hb) ?_; clear BK489 HB; intro HO493 HO495 BK489 HB; (try clear hb); (try clear hb2); (try clear hk); (try clear hi); (try clear ho0); (try clear ho1); obtain ⟨Ao14, co14, eo14⟩ := Kd.R_slice HO495.out; subst eo14; have p496 : 0 ≤ ((ji7) : Int) := of_decide_eq_true zz4; have q496 : (ji7) < (t491.length : Int) := of_decide_eq_true zz4; obtain ⟨ad496, e496, hx496_0⟩ := Kd.at_int (Kd.R_reads' HO495.out).2.2 (ji7) p496 q496; cases e496; replace p496 := eq_true p496; replace q496 := eq_true q496; obtain ⟨Ao15, co15, eo15⟩ := Kd.R_slice HO493.out; subst eo15; obtain ⟨hcz16_0, hcz16_1, hcz16_2, hfz16_0, hfz16_1, hfz16_2⟩ := qc3 BK489.out))
  refine bodyPost_ret (results_ctt rfl _ _ gb489 26 #[.string (subs a0 0 ((rd t491 (ji7)) : Int).toNat), .string (⟨#[]⟩ : ByteArray), .int .i64 (t490.length : Int)] (0, 0) _ rfl (by (with_reducible repeat (first | refine blk_drewN ?_ _ | refine blk_drew ?_ | refine blk_alloc ?_ _)); refine blk_put (cs := #[.string (subs a0 0 ((rd t491 (ji7)) : Int).toNat), .string (⟨#[]⟩ : ByteArray), .int .i64 0]) ?_ 2 _ rfl; (with_reducible repeat (first | refine blk_drewN ?_ _ | refine blk_drew ?_ | refine blk_alloc ?_ _)); refine blk_put (cs := #[.string (subs a0 0 ((rd t491 (ji7)) : Int).toNat), .string (⟨#[]⟩ : ByteArray), .int .i64 0]) ?_ 1 _ rfl; (with_reducible repeat (first | refine blk_drewN ?_ _ | refine blk_drew ?_ | refine blk_alloc ?_ _)); refine blk_put (cs := #[.string (⟨#[]⟩ : ByteArray), .string (⟨#[]⟩ : ByteArray), .int .i64 0]) ?_ 0 _ rfl; (with_reducible repeat (first | refine blk_drewN ?_ _ | refine blk_drew ?_ | refine blk_alloc ?_ _)); exact BK489.out) Tryd.underlying26 rfl (by kernel_rfl)) rfl ?_
  exact ⟨by first | rfl | (simp [errW_none, errW_some] <;> rfl) | (simp only [← hji7]; first | rfl | (simp [errW_none, errW_some] <;> rfl)) | (simp [*, errW_none, errW_some] <;> rfl), zz29⟩

end

section
attribute [local go_sem high] run_add_cat run_slice_cat run_slice_cat_h run_slice_cat_l run_slice_cat_all
/-! ### spec_RecoverLog: function 35 -/
end

end Go.Proofs.YtokmidpeeejahaaDoor.G

-- Written by a program of this session (wip/pd.py), which calls the kit's print; externals' contracts by hand.
namespace Go.Proofs.YtokmidpeeejahaaDoor.G
open Go.Proofs.YtokmidpeeejahaaDoorQ
open Go.RowKit Go.Proofs.YtokmidpeeejahaaDoorW.PrintWords Go.Proofs.YtokmidpeeejahaaDoorW.PrintLast Go.Proofs.YtokmidpeeejahaaDoorW.PrintMore
attribute [local go_sem] max2_int min2_int max_two min_two max_three min_three max_four min_four   -- for this text's walks alone
set_option linter.unusedVariables false
set_option linter.unusedSimpArgs false

section
attribute [local go_sem high] run_add_cat run_slice_cat run_slice_cat_h run_slice_cat_l run_slice_cat_all
/-! ### spec_l1Cur_anyLog: function 58 -/
def spec_l1Cur_anyLog.f (k : Nat) (s0_0 : List Int) (s0_1 : Int) (s0_2 : Int) : Option (ByteArray × ByteArray × Int × Int × Int) := (spec_l1Cur_log.f k s0_0 s0_1 s0_2).bind fun bt537 => ((spec_l1Cur_pick.f s0_0 bt537.2.2.2.1 bt537.2.2.2.2 24).bind fun bt543 => (if bt543.1 = 0 then (some (bt537.1, bt537.2.1, wrap64 (bt537.2.2.1 + 1), bt543.2.1, bt543.2.2)) else (if bt543.1 = 1 then ((spec_l1Cur_spoilt.f s0_0 bt543.2.1 bt543.2.2 bt537.2.1 (⟨#[35, 64, 10, 48, 49]⟩ : ByteArray)).bind fun bt546 => (some (bt537.1, bt546.1, bt537.2.2.1, bt546.2.1, bt546.2.2))) else (if bt543.1 = 2 then (if bt537.1.size + bt537.2.1.size ≤ 9223372036854775807 then (some (cat bt537.1 bt537.2.1, bt537.2.1, bt537.2.2.1, bt543.2.1, bt543.2.2)) else (none)) else (some (bt537.1, bt537.2.1, bt537.2.2.1, bt543.2.1, bt543.2.2))))))
set_option maxHeartbeats 8000000 in
set_option maxRecDepth 100000 in
theorem spec_l1Cur_anyLog.calls (k : Nat) (g : Nat) (s0_0 : List Int) (s0_1 : Int) (s0_2 : Int) (r1 : ByteArray) (r2 : ByteArray) (r3 : Int) (r4 : Int) (r5 : Int) (w0 w : World) (hI : IsS70 w0 w g s0_0 s0_1 s0_2) (hB : Below w0.heap.size w0 w) (h : spec_l1Cur_anyLog.f k s0_0 s0_1 s0_2 = some (r1, r2, r3, r4, r5)) :
    Calls Tryd.prog 58 #[.pointer (some ⟨g, 0, none⟩)] w fun e w' => e = .returned (.agg #[.string r1, .string r2, .int .i64 r3]) ∧ IsS70 w0 w' g s0_0 r4 r5 ∧ Below w0.heap.size w0 w' ∧ KeepBut w w' g none := by
  have hu26 := Tryd.underlying26
  have HI0 := Aside0.mk hI
  have HK := Aside0.mk (KeepBut.refl w g none)
  have HL := Aside0.mk hB.size
  clear hI
  have HW0 := Aside0.mk hB.size
  have HB := Aside0.mk hB
  clear hB
  unfold spec_l1Cur_anyLog.f at h
  have H := h
  clear h
  replace H := Option.bind_eq_some_iff.mp H
  obtain ⟨⟨t537, t538, t539, t540, t541⟩, A20, H⟩ := H
  (try dsimp only at H)
  have A2 := Aside0.mk A20
  clear A20
  replace H := Option.bind_eq_some_iff.mp H
  obtain ⟨⟨t543, t544, t545⟩, A30, H⟩ := H
  (try dsimp only at H)
  have A3 := Aside0.mk A30
  clear A30
  by_cases c4 : t543 = 0
  · rw [if_pos c4] at H
    have c4b0 := beq_iff_eq.mpr c4
    have c4b1 := bne_eq_false_iff_eq.mpr c4
    clear c4
    simp only [Option.some.injEq, Prod.mk.injEq] at H
    obtain ⟨rfl, rfl, rfl, rfl, rfl⟩ := H
    go_enter Tryd.func58, Tryd.ntmps58
    go_wp2_with (first | ((with_reducible refine gate_dst (N := 2) rfl ?_); refine qbox (N := 2) (cs := #[.string (⟨#[]⟩ : ByteArray), .string (⟨#[]⟩ : ByteArray), .int .i64 0]) (t := 26) ?_; intro gb536 hg w5 hbox hb; refine qs8 (IsS70.below zz45 hb) (KeepBut.trans zz23 (KeepBut.of_below hb g none) (.inl rfl)) (below_step zz46 hb) (hbox) ((zz120 : w.heap.size ≤ gb536)) ((Nat.le_trans HW0.out (zz120 : w.heap.size ≤ gb536) : w0.heap.size ≤ gb536)) ((zz123 : g ≠ gb536)) ((zz124 : gb536 ≠ g)) ?_; clear HI0 HK HB; intro HI0 HK HB BK536 GW536 GE536 NB0_536 NB536_0; clear hb hbox hg) | ((with_reducible refine gate_callee (f := 53) rfl ?_); refine qcall 5 Tryd.func53 rfl #[.pointer (some ⟨g, 0, none⟩)] ?_; (with_reducible refine (spec_l1Cur_log.calls k g s0_0 s0_1 s0_2 t537 t538 t539 t540 t541 w0 _ ?side1 ?side2 A2.out).mono ?_); (case side1 => exact zz63); (case side2 => exact zz61); rintro e w6 ⟨rfl, hi, hb, hk⟩; refine ⟨_, rfl, ?_⟩; refine qs4 (KeepBut.blk hk (qb BK536.out) NB536_0.out (by simp)) (KeepBut.trans zz50 hk (.inl rfl)) (hb) (hi) ?_; clear BK536 HK HB HI0; intro BK536 HK HB HI0; (try clear hb); (try clear hb2); (try clear hk); (try clear hi)) | ((with_reducible refine gate_dst (N := 3) rfl ?_); refine qbox (N := 3) (cs := #[.string (⟨#[]⟩ : ByteArray), .string (⟨#[]⟩ : ByteArray), .int .i64 0]) (t := 26) ?_; intro gb542 hg w7 hbox hb; refine qs11 (IsS70.below zz63 hb) (blk_below (qb BK536.out) hb) (KeepBut.trans zz50 (KeepBut.of_below hb g none) (.inl rfl)) (below_step zz61 hb) (hbox) ((zz121 : w.heap.size ≤ gb542)) ((Nat.le_trans HW0.out (zz121 : w.heap.size ≤ gb542) : w0.heap.size ≤ gb542)) ((by rw [hg]; exact Nat.ne_of_lt (blk_lt (qb BK536.out)) : gb536 ≠ gb542)) ((by rw [hg]; exact Nat.ne_of_gt (blk_lt (qb BK536.out)) : gb542 ≠ gb536)) ((zz125 : g ≠ gb542)) ((zz126 : gb542 ≠ g)) ?_; clear HI0 BK536 HK HB; intro HI0 BK536 HK HB BK542 GW542 GE542 NB536_542 NB542_536 NB0_542 NB542_0; clear hb hbox hg; have hnb8 := NB542_536.out; have hnc8 := NB536_542.out; have hnb9 := NB542_0.out; have hnc9 := NB0_542.out; obtain ⟨hcz10_0, hcz10_1, hcz10_2, hfz10_0, hfz10_1, hfz10_2⟩ := qc3 BK542.out) | ((with_reducible refine gate_callee (f := 54) rfl ?_); refine qcall 7 Tryd.func54 rfl #[.pointer (some ⟨g, 0, none⟩), .int .i64 24] ?_; (with_reducible refine (spec_l1Cur_pick.calls g s0_0 t540 t541 24 t543 t544 t545 w0 _ ?side1 ?side2 A3.out).mono ?_); (case side1 => exact zz77); (case side2 => exact zz73); rintro e w11 ⟨rfl, hi, hb, hk⟩; refine ⟨_, rfl, ?_⟩; refine qs5 (KeepBut.blk hk (g' := gb536) (o := .cells #[.string (⟨#[]⟩ : ByteArray), .string (⟨#[]⟩ : ByteArray), .int .i64 0] 26 (0, 0)) zz98 NB536_0.out (by simp)) (KeepBut.blk hk (g' := gb542) (o := .cells #[.string t537, .string t538, .int .i64 t539] 26 (0, 0)) zz112 NB542_0.out (by simp)) (KeepBut.trans zz67 hk (.inl rfl)) (hb) (hi) ?_; clear BK536 BK542 HK HB HI0; intro BK536 BK542 HK HB HI0; (try clear hb); (try clear hb2); (try clear hk); (try clear hi); obtain ⟨hcz12_0, hcz12_1, hcz12_2, hfz12_0, hfz12_1, hfz12_2⟩ := qc3 BK542.out; have hnb13 := NB536_0.out; have hnc13 := NB0_536.out; obtain ⟨hcz14_0, hcz14_1, hcz14_2, hfz14_0, hfz14_1, hfz14_2⟩ := qc3 BK536.out))
    refine bodyPost_ret (results_cell_row rfl _ _ gb536 26 #[.string t537, .string t538, .int .i64 (wrap64 (t539 + 1))] (0, 0) _ rfl (by (with_reducible repeat (first | refine blk_drewN ?_ _ | refine blk_drew ?_ | refine blk_alloc ?_ _)); refine blk_put (cs := #[.string t537, .string t538, .int .i64 0]) ?_ 2 _ rfl; (with_reducible repeat (first | refine blk_drewN ?_ _ | refine blk_drew ?_ | refine blk_alloc ?_ _)); refine blk_put (cs := #[.string t537, .string (⟨#[]⟩ : ByteArray), .int .i64 0]) ?_ 1 _ rfl; (with_reducible repeat (first | refine blk_drewN ?_ _ | refine blk_drew ?_ | refine blk_alloc ?_ _)); refine blk_put (cs := #[.string (⟨#[]⟩ : ByteArray), .string (⟨#[]⟩ : ByteArray), .int .i64 0]) ?_ 0 _ rfl; (with_reducible repeat (first | refine blk_drewN ?_ _ | refine blk_drew ?_ | refine blk_alloc ?_ _)); refine blk_far ?_ NB536_542.out _; (with_reducible repeat (first | refine blk_drewN ?_ _ | refine blk_drew ?_ | refine blk_alloc ?_ _)); exact BK536.out) Tryd.underlying26 rfl (by kernel_rfl)) rfl ?_
    exact ⟨zz7, zz77, zz73, zz67⟩
  rw [if_neg c4] at H
  have c4b0 := beq_eq_false_iff_ne.mpr c4
  have c4b1 := bne_iff_ne.mpr c4
  by_cases c15 : t543 = 1
  · rw [if_pos c15] at H
    have c15b0 := beq_iff_eq.mpr c15
    have c15b1 := bne_eq_false_iff_eq.mpr c15
    clear c15
    replace H := Option.bind_eq_some_iff.mp H
    obtain ⟨⟨t546, t547, t548⟩, A160, H⟩ := H
    (try dsimp only at H)
    have A16 := Aside0.mk A160
    clear A160
    simp only [Option.some.injEq, Prod.mk.injEq] at H
    obtain ⟨rfl, rfl, rfl, rfl, rfl⟩ := H
    go_enter Tryd.func58, Tryd.ntmps58
    go_wp2_with (first | ((with_reducible refine gate_dst (N := 2) rfl ?_); refine qbox (N := 2) (cs := #[.string (⟨#[]⟩ : ByteArray), .string (⟨#[]⟩ : ByteArray), .int .i64 0]) (t := 26) ?_; intro gb536 hg w17 hbox hb; refine qs8 (IsS70.below zz45 hb) (KeepBut.trans zz23 (KeepBut.of_below hb g none) (.inl rfl)) (below_step zz46 hb) (hbox) ((zz120 : w.heap.size ≤ gb536)) ((Nat.le_trans HW0.out (zz120 : w.heap.size ≤ gb536) : w0.heap.size ≤ gb536)) ((zz123 : g ≠ gb536)) ((zz124 : gb536 ≠ g)) ?_; clear HI0 HK HB; intro HI0 HK HB BK536 GW536 GE536 NB0_536 NB536_0; clear hb hbox hg) | ((with_reducible refine gate_callee (f := 53) rfl ?_); refine qcall 5 Tryd.func53 rfl #[.pointer (some ⟨g, 0, none⟩)] ?_; (with_reducible refine (spec_l1Cur_log.calls k g s0_0 s0_1 s0_2 t537 t538 t539 t540 t541 w0 _ ?side1 ?side2 A2.out).mono ?_); (case side1 => exact zz63); (case side2 => exact zz61); rintro e w18 ⟨rfl, hi, hb, hk⟩; refine ⟨_, rfl, ?_⟩; refine qs4 (KeepBut.blk hk (qb BK536.out) NB536_0.out (by simp)) (KeepBut.trans zz50 hk (.inl rfl)) (hb) (hi) ?_; clear BK536 HK HB HI0; intro BK536 HK HB HI0; (try clear hb); (try clear hb2); (try clear hk); (try clear hi)) | ((with_reducible refine gate_dst (N := 3) rfl ?_); refine qbox (N := 3) (cs := #[.string (⟨#[]⟩ : ByteArray), .string (⟨#[]⟩ : ByteArray), .int .i64 0]) (t := 26) ?_; intro gb542 hg w19 hbox hb; refine qs11 (IsS70.below zz63 hb) (blk_below (qb BK536.out) hb) (KeepBut.trans zz50 (KeepBut.of_below hb g none) (.inl rfl)) (below_step zz61 hb) (hbox) ((zz121 : w.heap.size ≤ gb542)) ((Nat.le_trans HW0.out (zz121 : w.heap.size ≤ gb542) : w0.heap.size ≤ gb542)) ((by rw [hg]; exact Nat.ne_of_lt (blk_lt (qb BK536.out)) : gb536 ≠ gb542)) ((by rw [hg]; exact Nat.ne_of_gt (blk_lt (qb BK536.out)) : gb542 ≠ gb536)) ((zz125 : g ≠ gb542)) ((zz126 : gb542 ≠ g)) ?_; clear HI0 BK536 HK HB; intro HI0 BK536 HK HB BK542 GW542 GE542 NB536_542 NB542_536 NB0_542 NB542_0; clear hb hbox hg; have hnb20 := NB542_536.out; have hnc20 := NB536_542.out; have hnb21 := NB542_0.out; have hnc21 := NB0_542.out; obtain ⟨hcz22_0, hcz22_1, hcz22_2, hfz22_0, hfz22_1, hfz22_2⟩ := qc3 BK542.out) | ((with_reducible refine gate_callee (f := 54) rfl ?_); refine qcall 7 Tryd.func54 rfl #[.pointer (some ⟨g, 0, none⟩), .int .i64 24] ?_; (with_reducible refine (spec_l1Cur_pick.calls g s0_0 t540 t541 24 t543 t544 t545 w0 _ ?side1 ?side2 A3.out).mono ?_); (case side1 => exact zz77); (case side2 => exact zz73); rintro e w23 ⟨rfl, hi, hb, hk⟩; refine ⟨_, rfl, ?_⟩; refine qs5 (KeepBut.blk hk (g' := gb536) (o := .cells #[.string (⟨#[]⟩ : ByteArray), .string (⟨#[]⟩ : ByteArray), .int .i64 0] 26 (0, 0)) zz98 NB536_0.out (by simp)) (KeepBut.blk hk (g' := gb542) (o := .cells #[.string t537, .string t538, .int .i64 t539] 26 (0, 0)) zz112 NB542_0.out (by simp)) (KeepBut.trans zz67 hk (.inl rfl)) (hb) (hi) ?_; clear BK536 BK542 HK HB HI0; intro BK536 BK542 HK HB HI0; (try clear hb); (try clear hb2); (try clear hk); (try clear hi); obtain ⟨hcz24_0, hcz24_1, hcz24_2, hfz24_0, hfz24_1, hfz24_2⟩ := qc3 BK542.out) | ((with_reducible refine gate_callee (f := 55) rfl ?_); refine qcall 19 Tryd.func55 rfl #[.pointer (some ⟨g, 0, none⟩), .string t538, .string (⟨#[35, 64, 10, 48, 49]⟩ : ByteArray)] ?_; (with_reducible refine (spec_l1Cur_spoilt.calls g s0_0 t544 t545 t538 (⟨#[35, 64, 10, 48, 49]⟩ : ByteArray) t546 t547 t548 w0 _ ?side1 ?side2 A16.out).mono ?_); (case side1 => exact zz77); (case side2 => exact zz73); rintro e w25 ⟨rfl, hi, hb, hk⟩; refine ⟨_, rfl, ?_⟩; refine qs5 (KeepBut.blk hk (qb BK536.out) NB536_0.out (by simp)) (KeepBut.blk hk (qb BK542.out) NB542_0.out (by simp)) (KeepBut.trans zz67 hk (.inl rfl)) (hb) (hi) ?_; clear BK536 BK542 HK HB HI0; intro BK536 BK542 HK HB HI0; (try clear hb); (try clear hb2); (try clear hk); (try clear hi); obtain ⟨hcz26_0, hcz26_1, hcz26_2, hfz26_0, hfz26_1, hfz26_2⟩ := qc3 BK542.out; have hnb27 := NB536_0.out; have hnc27 := NB0_536.out; obtain ⟨hcz28_0, hcz28_1, hcz28_2, hfz28_0, hfz28_1, hfz28_2⟩ := qc3 BK536.out))
    refine bodyPost_ret (results_cell_row rfl _ _ gb536 26 #[.string t537, .string t546, .int .i64 t539] (0, 0) _ rfl (by (with_reducible repeat (first | refine blk_drewN ?_ _ | refine blk_drew ?_ | refine blk_alloc ?_ _)); refine blk_put (cs := #[.string t537, .string t546, .int .i64 0]) ?_ 2 _ rfl; (with_reducible repeat (first | refine blk_drewN ?_ _ | refine blk_drew ?_ | refine blk_alloc ?_ _)); refine blk_put (cs := #[.string t537, .string (⟨#[]⟩ : ByteArray), .int .i64 0]) ?_ 1 _ rfl; (with_reducible repeat (first | refine blk_drewN ?_ _ | refine blk_drew ?_ | refine blk_alloc ?_ _)); refine blk_put (cs := #[.string (⟨#[]⟩ : ByteArray), .string (⟨#[]⟩ : ByteArray), .int .i64 0]) ?_ 0 _ rfl; (with_reducible repeat (first | refine blk_drewN ?_ _ | refine blk_drew ?_ | refine blk_alloc ?_ _)); refine blk_far ?_ NB536_542.out _; (with_reducible repeat (first | refine blk_drewN ?_ _ | refine blk_drew ?_ | refine blk_alloc ?_ _)); exact BK536.out) Tryd.underlying26 rfl (by kernel_rfl)) rfl ?_
    exact ⟨zz7, zz77, zz73, zz67⟩
  rw [if_neg c15] at H
  have c15b0 := beq_eq_false_iff_ne.mpr c15
  have c15b1 := bne_iff_ne.mpr c15
  by_cases c29 : t543 = 2
  rotate_left
  · rw [if_neg c29] at H
    have c29b0 := beq_eq_false_iff_ne.mpr c29
    have c29b1 := bne_iff_ne.mpr c29
    simp only [Option.some.injEq, Prod.mk.injEq] at H
    obtain ⟨rfl, rfl, rfl, rfl, rfl⟩ := H
    go_enter Tryd.func58, Tryd.ntmps58
    go_wp2_with (first | ((with_reducible refine gate_dst (N := 2) rfl ?_); refine qbox (N := 2) (cs := #[.string (⟨#[]⟩ : ByteArray), .string (⟨#[]⟩ : ByteArray), .int .i64 0]) (t := 26) ?_; intro gb536 hg w41 hbox hb; refine qs8 (IsS70.below zz45 hb) (KeepBut.trans zz23 (KeepBut.of_below hb g none) (.inl rfl)) (below_step zz46 hb) (hbox) ((zz120 : w.heap.size ≤ gb536)) ((Nat.le_trans HW0.out (zz120 : w.heap.size ≤ gb536) : w0.heap.size ≤ gb536)) ((zz123 : g ≠ gb536)) ((zz124 : gb536 ≠ g)) ?_; clear HI0 HK HB; intro HI0 HK HB BK536 GW536 GE536 NB0_536 NB536_0; clear hb hbox hg) | ((with_reducible refine gate_callee (f := 53) rfl ?_); refine qcall 5 Tryd.func53 rfl #[.pointer (some ⟨g, 0, none⟩)] ?_; (with_reducible refine (spec_l1Cur_log.calls k g s0_0 s0_1 s0_2 t537 t538 t539 t540 t541 w0 _ ?side1 ?side2 A2.out).mono ?_); (case side1 => exact zz63); (case side2 => exact zz61); rintro e w42 ⟨rfl, hi, hb, hk⟩; refine ⟨_, rfl, ?_⟩; refine qs4 (KeepBut.blk hk (qb BK536.out) NB536_0.out (by simp)) (KeepBut.trans zz50 hk (.inl rfl)) (hb) (hi) ?_; clear BK536 HK HB HI0; intro BK536 HK HB HI0; (try clear hb); (try clear hb2); (try clear hk); (try clear hi)) | ((with_reducible refine gate_dst (N := 3) rfl ?_); refine qbox (N := 3) (cs := #[.string (⟨#[]⟩ : ByteArray), .string (⟨#[]⟩ : ByteArray), .int .i64 0]) (t := 26) ?_; intro gb542 hg w43 hbox hb; refine qs11 (IsS70.below zz63 hb) (blk_below (qb BK536.out) hb) (KeepBut.trans zz50 (KeepBut.of_below hb g none) (.inl rfl)) (below_step zz61 hb) (hbox) ((zz121 : w.heap.size ≤ gb542)) ((Nat.le_trans HW0.out (zz121 : w.heap.size ≤ gb542) : w0.heap.size ≤ gb542)) ((by rw [hg]; exact Nat.ne_of_lt (blk_lt (qb BK536.out)) : gb536 ≠ gb542)) ((by rw [hg]; exact Nat.ne_of_gt (blk_lt (qb BK536.out)) : gb542 ≠ gb536)) ((zz125 : g ≠ gb542)) ((zz126 : gb542 ≠ g)) ?_; clear HI0 BK536 HK HB; intro HI0 BK536 HK HB BK542 GW542 GE542 NB536_542 NB542_536 NB0_542 NB542_0; clear hb hbox hg; have hnb44 := NB542_536.out; have hnc44 := NB536_542.out; have hnb45 := NB542_0.out; have hnc45 := NB0_542.out; obtain ⟨hcz46_0, hcz46_1, hcz46_2, hfz46_0, hfz46_1, hfz46_2⟩ := qc3 BK542.out) | ((with_reducible refine gate_callee (f := 54) rfl ?_); refine qcall 7 Tryd.func54 rfl #[.pointer (some ⟨g, 0, none⟩), .int .i64 24] ?_; (with_reducible refine (spec_l1Cur_pick.calls g s0_0 t540 t541 24 t543 t544 t545 w0 _ ?side1 ?side2 A3.out).mono ?_); (case side1 => exact zz77); (case side2 => exact zz73); rintro e w47 ⟨rfl, hi, hb, hk⟩; refine ⟨_, rfl, ?_⟩; refine qs5 (KeepBut.blk hk (g' := gb536) (o := .cells #[.string (⟨#[]⟩ : ByteArray), .string (⟨#[]⟩ : ByteArray), .int .i64 0] 26 (0, 0)) zz98 NB536_0.out (by simp)) (KeepBut.blk hk (g' := gb542) (o := .cells #[.string t537, .string t538, .int .i64 t539] 26 (0, 0)) zz112 NB542_0.out (by simp)) (KeepBut.trans zz67 hk (.inl rfl)) (hb) (hi) ?_; clear BK536 BK542 HK HB HI0; intro BK536 BK542 HK HB HI0; (try clear hb); (try clear hb2); (try clear hk); (try clear hi); obtain ⟨hcz48_0, hcz48_1, hcz48_2, hfz48_0, hfz48_1, hfz48_2⟩ := qc3 BK542.out; have hnb49 := NB536_0.out; have hnc49 := NB0_536.out; obtain ⟨hcz50_0, hcz50_1, hcz50_2, hfz50_0, hfz50_1, hfz50_2⟩ := qc3 BK536.out))
    refine bodyPost_ret (results_cell_row rfl _ _ gb536 26 #[.string t537, .string t538, .int .i64 t539] (0, 0) _ rfl (by (with_reducible repeat (first | refine blk_drewN ?_ _ | refine blk_drew ?_ | refine blk_alloc ?_ _)); refine blk_put (cs := #[.string t537, .string t538, .int .i64 0]) ?_ 2 _ rfl; (with_reducible repeat (first | refine blk_drewN ?_ _ | refine blk_drew ?_ | refine blk_alloc ?_ _)); refine blk_put (cs := #[.string t537, .string (⟨#[]⟩ : ByteArray), .int .i64 0]) ?_ 1 _ rfl; (with_reducible repeat (first | refine blk_drewN ?_ _ | refine blk_drew ?_ | refine blk_alloc ?_ _)); refine blk_put (cs := #[.string (⟨#[]⟩ : ByteArray), .string (⟨#[]⟩ : ByteArray), .int .i64 0]) ?_ 0 _ rfl; (with_reducible repeat (first | refine blk_drewN ?_ _ | refine blk_drew ?_ | refine blk_alloc ?_ _)); exact BK536.out) Tryd.underlying26 rfl (by kernel_rfl)) rfl ?_
    exact ⟨zz7, zz77, zz73, zz67⟩
  rw [if_pos c29] at H
  have c29b0 := beq_iff_eq.mpr c29
  have c29b1 := bne_eq_false_iff_eq.mpr c29
  clear c29
  by_cases c30 : t537.size + t538.size ≤ 9223372036854775807
  rotate_left
  · rw [if_neg c30] at H
    exact absurd H (by simp)
  rw [if_pos c30] at H
  have c30b0 := eq_true c30
  have c30b1 := decide_eq_true c30
  try have c30b2 := eq_false (Nat.not_lt.2 c30)
  clear c30
  simp only [Option.some.injEq, Prod.mk.injEq] at H
  obtain ⟨rfl, rfl, rfl, rfl, rfl⟩ := H
  go_enter Tryd.func58, Tryd.ntmps58
  go_wp2_with (first | ((with_reducible refine gate_dst (N := 2) rfl ?_); refine qbox (N := 2) (cs := #[.string (⟨#[]⟩ : ByteArray), .string (⟨#[]⟩ : ByteArray), .int .i64 0]) (t := 26) ?_; intro gb536 hg w31 hbox hb; refine qs8 (IsS70.below zz45 hb) (KeepBut.trans zz23 (KeepBut.of_below hb g none) (.inl rfl)) (below_step zz46 hb) (hbox) ((zz120 : w.heap.size ≤ gb536)) ((Nat.le_trans HW0.out (zz120 : w.heap.size ≤ gb536) : w0.heap.size ≤ gb536)) ((zz123 : g ≠ gb536)) ((zz124 : gb536 ≠ g)) ?_; clear HI0 HK HB; intro HI0 HK HB BK536 GW536 GE536 NB0_536 NB536_0; clear hb hbox hg) | ((with_reducible refine gate_callee (f := 53) rfl ?_); refine qcall 5 Tryd.func53 rfl #[.pointer (some ⟨g, 0, none⟩)] ?_; (with_reducible refine (spec_l1Cur_log.calls k g s0_0 s0_1 s0_2 t537 t538 t539 t540 t541 w0 _ ?side1 ?side2 A2.out).mono ?_); (case side1 => exact zz63); (case side2 => exact zz61); rintro e w32 ⟨rfl, hi, hb, hk⟩; refine ⟨_, rfl, ?_⟩; refine qs4 (KeepBut.blk hk (qb BK536.out) NB536_0.out (by simp)) (KeepBut.trans zz50 hk (.inl rfl)) (hb) (hi) ?_; clear BK536 HK HB HI0; intro BK536 HK HB HI0; (try clear hb); (try clear hb2); (try clear hk); (try clear hi)) | ((with_reducible refine gate_dst (N := 3) rfl ?_); refine qbox (N := 3) (cs := #[.string (⟨#[]⟩ : ByteArray), .string (⟨#[]⟩ : ByteArray), .int .i64 0]) (t := 26) ?_; intro gb542 hg w33 hbox hb; refine qs11 (IsS70.below zz63 hb) (blk_below (qb BK536.out) hb) (KeepBut.trans zz50 (KeepBut.of_below hb g none) (.inl rfl)) (below_step zz61 hb) (hbox) ((zz121 : w.heap.size ≤ gb542)) ((Nat.le_trans HW0.out (zz121 : w.heap.size ≤ gb542) : w0.heap.size ≤ gb542)) ((by rw [hg]; exact Nat.ne_of_lt (blk_lt (qb BK536.out)) : gb536 ≠ gb542)) ((by rw [hg]; exact Nat.ne_of_gt (blk_lt (qb BK536.out)) : gb542 ≠ gb536)) ((zz125 : g ≠ gb542)) ((zz126 : gb542 ≠ g)) ?_; clear HI0 BK536 HK HB; intro HI0 BK536 HK HB BK542 GW542 GE542 NB536_542 NB542_536 NB0_542 NB542_0; clear hb hbox hg; have hnb34 := NB542_536.out; have hnc34 := NB536_542.out; have hnb35 := NB542_0.out; have hnc35 := NB0_542.out; obtain ⟨hcz36_0, hcz36_1, hcz36_2, hfz36_0, hfz36_1, hfz36_2⟩ := qc3 BK542.out) | ((with_reducible refine gate_callee (f := 54) rfl ?_); refine qcall 7 Tryd.func54 rfl #[.pointer (some ⟨g, 0, none⟩), .int .i64 24] ?_; (with_reducible refine (spec_l1Cur_pick.calls g s0_0 t540 t541 24 t543 t544 t545 w0 _ ?side1 ?side2 A3.out).mono ?_); (case side1 => exact zz77); (case side2 => exact zz73); rintro e w37 ⟨rfl, hi, hb, hk⟩; refine ⟨_, rfl, ?_⟩; refine qs5 (KeepBut.blk hk (g' := gb536) (o := .cells #[.string (⟨#[]⟩ : ByteArray), .string (⟨#[]⟩ : ByteArray), .int .i64 0] 26 (0, 0)) zz98 NB536_0.out (by simp)) (KeepBut.blk hk (g' := gb542) (o := .cells #[.string t537, .string t538, .int .i64 t539] 26 (0, 0)) zz112 NB542_0.out (by simp)) (KeepBut.trans zz67 hk (.inl rfl)) (hb) (hi) ?_; clear BK536 BK542 HK HB HI0; intro BK536 BK542 HK HB HI0; (try clear hb); (try clear hb2); (try clear hk); (try clear hi); obtain ⟨hcz38_0, hcz38_1, hcz38_2, hfz38_0, hfz38_1, hfz38_2⟩ := qc3 BK542.out; have hnb39 := NB536_0.out; have hnc39 := NB0_536.out; obtain ⟨hcz40_0, hcz40_1, hcz40_2, hfz40_0, hfz40_1, hfz40_2⟩ := qc3 BK536.out))
  refine bodyPost_ret (results_cell_row rfl _ _ gb536 26 #[.string (cat t537 t538), .string t538, .int .i64 t539] (0, 0) _ rfl (by (with_reducible repeat (first | refine blk_drewN ?_ _ | refine blk_drew ?_ | refine blk_alloc ?_ _)); refine blk_put (cs := #[.string (cat t537 t538), .string t538, .int .i64 0]) ?_ 2 _ rfl; (with_reducible repeat (first | refine blk_drewN ?_ _ | refine blk_drew ?_ | refine blk_alloc ?_ _)); refine blk_put (cs := #[.string (cat t537 t538), .string (⟨#[]⟩ : ByteArray), .int .i64 0]) ?_ 1 _ rfl; (with_reducible repeat (first | refine blk_drewN ?_ _ | refine blk_drew ?_ | refine blk_alloc ?_ _)); refine blk_put (cs := #[.string (⟨#[]⟩ : ByteArray), .string (⟨#[]⟩ : ByteArray), .int .i64 0]) ?_ 0 _ rfl; (with_reducible repeat (first | refine blk_drewN ?_ _ | refine blk_drew ?_ | refine blk_alloc ?_ _)); refine blk_far ?_ NB536_542.out _; (with_reducible repeat (first | refine blk_drewN ?_ _ | refine blk_drew ?_ | refine blk_alloc ?_ _)); exact BK536.out) Tryd.underlying26 rfl (by kernel_rfl)) rfl ?_
  exact ⟨zz7, zz77, zz73, zz67⟩

end

section
attribute [local go_sem high] run_add_cat run_slice_cat run_slice_cat_h run_slice_cat_l run_slice_cat_all
/-! ### spec_DrawAppendRecord: function 36 -/
mutual
def spec_DrawAppendRecord.j1 : Nat → List Int → Int → Int → ByteArray → ByteArray → Int → Option (ByteArray × ByteArray × Int × ByteArray × ByteArray)
  | 0, _, _, _, _, _, _ => none
  | k + 1, x552000, x552001, x552002, x558000, x558001, x558002 => (spec_l1Cur_logRecord.f x552000 x552001 x552002).bind fun bt568 => (some (x558000, x558001, x558002, bt568.1, bt568.2.1))
def spec_DrawAppendRecord.l0 : Nat → Int → List Int → Int → Int → ByteArray → ByteArray → Int → Option (ByteArray × ByteArray × Int × ByteArray × ByteArray)
  | 0, _, _, _, _, _, _, _ => none
  | k + 1, x6, x552000, x552001, x552002, x558000, x558001, x558002 => if x6 > 0 then ((spec_AppendRecord.f k x558000 x558001 x558002 (⟨#[120]⟩ : ByteArray) (⟨#[]⟩ : ByteArray)).bind fun bt564 => (spec_DrawAppendRecord.l0 k (wrap64 (x6 - 1)) x552000 x552001 x552002 bt564.1 bt564.2.1 bt564.2.2.1)) else (spec_DrawAppendRecord.j1 k x552000 x552001 x552002 x558000 x558001 x558002)
end
def spec_DrawAppendRecord.f (k : Nat) (l0 : List Int) : Option (ByteArray × ByteArray × Int × ByteArray × ByteArray) := (spec_l1Cur_anyLog.f k l0 0 0).bind fun bt552 => ((spec_l1Cur_one.f l0 bt552.2.2.2.1 bt552.2.2.2.2 40).bind fun bt558 => (if bt558.1 = true then ((spec_l1Cur_pick.f l0 bt558.2.1 bt558.2.2 2).bind fun bt561 => (spec_DrawAppendRecord.l0 k (wrap64 (59 + bt561.1)) l0 bt561.2.1 bt561.2.2 (⟨#[]⟩ : ByteArray) (⟨#[]⟩ : ByteArray) 0)) else (spec_DrawAppendRecord.j1 k l0 bt558.2.1 bt558.2.2 bt552.1 bt552.2.1 bt552.2.2.1)))
set_option maxHeartbeats 8000000 in
set_option maxRecDepth 100000 in
theorem spec_DrawAppendRecord.calls (k : Nat) (A0 : Option Addr) (c0 : Nat) (l0 : List Int) (r1 : ByteArray) (r2 : ByteArray) (r3 : Int) (r4 : ByteArray) (r5 : ByteArray) (w : World) (hr0 : Kd.C (Kd.int .u8) w A0 l0.length l0) (hc0 : l0.length ≤ c0) (h : spec_DrawAppendRecord.f k l0 = some (r1, r2, r3, r4, r5)) :
    Calls Tryd.prog 36 #[.slice A0 l0.length c0] w fun e w' => e = .returned (.tuple #[.agg #[.string r1, .string r2, .int .i64 r3], .agg #[.string r4, .string r5]]) ∧ Below w.heap.size w w' := by
  have hu26 := Tryd.underlying26
  have hu40 := Tryd.underlying40
  have hu70 := Tryd.underlying70
  have HR0 := Aside0.mk hr0
  have HC0 := Aside0.mk hc0
  clear hr0 hc0
  have HB := Aside0.mk (Below.refl w.heap.size w)
  unfold spec_DrawAppendRecord.f at h
  have H := h
  clear h
  replace H := Option.bind_eq_some_iff.mp H
  obtain ⟨⟨t552, t553, t554, t555, t556⟩, A20, H⟩ := H
  (try dsimp only at H)
  have A2 := Aside0.mk A20
  clear A20
  replace H := Option.bind_eq_some_iff.mp H
  obtain ⟨⟨t558, t559, t560⟩, A30, H⟩ := H
  (try dsimp only at H)
  have A3 := Aside0.mk A30
  clear A30
  have HC4 := Aside0.mk H
  clear H
  go_enter Tryd.func36, Tryd.ntmps36
  go_upto_if 13 with (first | ((with_reducible refine gate_dst (N := 2) rfl ?_); refine qbox (N := 2) (cs := #[.string (⟨#[]⟩ : ByteArray), .string (⟨#[]⟩ : ByteArray), .int .i64 0]) (t := 26) ?_; intro gb549 hg w5 hbox hb; refine qs4 (below_step zz20 hb) (hbox) ((zz119 : w.heap.size ≤ gb549)) ((zz119 : w.heap.size ≤ gb549)) ?_; clear HB; intro HB BK549 GW549 GE549; clear hb hbox hg) | ((with_reducible refine gate_dst (N := 3) rfl ?_); refine qbox (N := 3) (cs := #[.string (⟨#[]⟩ : ByteArray), .string (⟨#[]⟩ : ByteArray)]) (t := 40) ?_; intro gb550 hg w6 hbox hb; refine qs7 (blk_below (qb BK549.out) hb) (below_step zz42 hb) (hbox) ((by rw [hg]; exact (below_size zz42) : w.heap.size ≤ gb550)) ((by rw [hg]; exact (below_size zz42) : w.heap.size ≤ gb550)) ((by rw [hg]; exact Nat.ne_of_lt (blk_lt (qb BK549.out)) : gb549 ≠ gb550)) ((by rw [hg]; exact Nat.ne_of_gt (blk_lt (qb BK549.out)) : gb550 ≠ gb549)) ?_; clear BK549 HB; intro BK549 HB BK550 GW550 GE550 NB549_550 NB550_549; clear hb hbox hg) | ((with_reducible refine gate_dst (N := 9) rfl ?_); refine qbox (N := 9) (cs := #[.slice A0 l0.length c0, .int .i64 0, .int .u64 0]) (t := 70) ?_; intro gb551 hg w7 hbox hb; refine qs10 (blk_below (qb BK549.out) hb) (blk_below (qb BK550.out) hb) (below_step zz57 hb) ((show IsS70 w w7 gb551 l0 0 0 from ⟨A0, c0, hbox, (by rw [hg]; exact (below_size zz57)), HR0.out⟩)) ((by rw [hg]; exact (below_size zz57) : w.heap.size ≤ gb551)) ((by rw [hg]; exact (below_size zz57) : w.heap.size ≤ gb551)) ((by rw [hg]; exact Nat.ne_of_lt (blk_lt (qb BK549.out)) : gb549 ≠ gb551)) ((by rw [hg]; exact Nat.ne_of_gt (blk_lt (qb BK549.out)) : gb551 ≠ gb549)) ((by rw [hg]; exact Nat.ne_of_lt (blk_lt (qb BK550.out)) : gb550 ≠ gb551)) ((by rw [hg]; exact Nat.ne_of_gt (blk_lt (qb BK550.out)) : gb551 ≠ gb550)) ?_; clear BK549 BK550 HB; intro BK549 BK550 HB HI551 GW551 GE551 NB549_551 NB551_549 NB550_551 NB551_550; clear hb hbox hg) | ((with_reducible refine gate_callee (f := 58) rfl ?_); refine qcall 11 Tryd.func58 rfl #[.pointer (some ⟨gb551, 0, none⟩)] ?_; (with_reducible refine (spec_l1Cur_anyLog.calls k gb551 l0 0 0 t552 t553 t554 t555 t556 w _ ?side1 ?side2 A2.out).mono ?_); (case side1 => exact zz78); (case side2 => exact zz74); rintro e w8 ⟨rfl, hi, hb, hk⟩; refine ⟨_, rfl, ?_⟩; refine qs4 (KeepBut.blk hk (qb BK549.out) NB549_551.out (by simp)) (KeepBut.blk hk (qb BK550.out) NB550_551.out (by simp)) (hb) (hi) ?_; clear BK549 BK550 HB HI551; intro BK549 BK550 HB HI551; (try clear hb); (try clear hb2); (try clear hk); (try clear hi)) | ((with_reducible refine gate_dst (N := 5) rfl ?_); refine qbox (N := 5) (cs := #[.string (⟨#[]⟩ : ByteArray), .string (⟨#[]⟩ : ByteArray), .int .i64 0]) (t := 26) ?_; intro gb557 hg w9 hbox hb; refine qs13 (blk_below (qb BK549.out) hb) (blk_below (qb BK550.out) hb) (IsS70.below zz78 hb) (below_step zz74 hb) (hbox) ((by rw [hg]; exact (below_size zz74) : w.heap.size ≤ gb557)) ((by rw [hg]; exact (below_size zz74) : w.heap.size ≤ gb557)) ((by rw [hg]; exact Nat.ne_of_lt (blk_lt (qb BK549.out)) : gb549 ≠ gb557)) ((by rw [hg]; exact Nat.ne_of_gt (blk_lt (qb BK549.out)) : gb557 ≠ gb549)) ((by rw [hg]; exact Nat.ne_of_lt (blk_lt (qb BK550.out)) : gb550 ≠ gb557)) ((by rw [hg]; exact Nat.ne_of_gt (blk_lt (qb BK550.out)) : gb557 ≠ gb550)) ((by rw [hg]; exact Nat.ne_of_lt (IsS70.lt (show IsS70 w _ gb551 l0 t555 t556 from zz78)) : gb551 ≠ gb557)) ((by rw [hg]; exact Nat.ne_of_gt (IsS70.lt (show IsS70 w _ gb551 l0 t555 t556 from zz78)) : gb557 ≠ gb551)) ?_; clear BK549 BK550 HI551 HB; intro BK549 BK550 HI551 HB BK557 GW557 GE557 NB549_557 NB557_549 NB550_557 NB557_550 NB551_557 NB557_551; clear hb hbox hg; have hnb10 := NB557_549.out; have hnc10 := NB549_557.out; have hnb11 := NB557_550.out; have hnc11 := NB550_557.out; have hnb12 := NB557_551.out; have hnc12 := NB551_557.out; obtain ⟨hcz13_0, hcz13_1, hcz13_2, hfz13_0, hfz13_1, hfz13_2⟩ := qc3 BK557.out) | ((with_reducible refine gate_callee (f := 56) rfl ?_); refine qcall 13 Tryd.func56 rfl #[.pointer (some ⟨gb551, 0, none⟩), .int .i64 40] ?_; (with_reducible refine (spec_l1Cur_one.calls gb551 l0 t555 t556 40 t558 t559 t560 w _ ?side1 ?side2 A3.out).mono ?_); (case side1 => exact zz81); (case side2 => exact zz80); rintro e w14 ⟨rfl, hi, hb, hk⟩; refine ⟨_, rfl, ?_⟩; refine qs5 (KeepBut.blk hk (g' := gb549) (o := .cells #[.string (⟨#[]⟩ : ByteArray), .string (⟨#[]⟩ : ByteArray), .int .i64 0] 26 (0, 0)) zz102 NB549_551.out (by simp)) (KeepBut.blk hk (g' := gb550) (o := .cells #[.string (⟨#[]⟩ : ByteArray), .string (⟨#[]⟩ : ByteArray)] 40 (0, 0)) zz103 NB550_551.out (by simp)) (KeepBut.blk hk (g' := gb557) (o := .cells #[.string t552, .string t553, .int .i64 t554] 26 (0, 0)) (by (with_reducible repeat (first | refine blk_drewN ?_ _ | refine blk_drew ?_ | refine blk_alloc ?_ _)); refine blk_put (cs := #[.string t552, .string t553, .int .i64 0]) ?_ 2 _ rfl; (with_reducible repeat (first | refine blk_drewN ?_ _ | refine blk_drew ?_ | refine blk_alloc ?_ _)); refine blk_put (cs := #[.string t552, .string (⟨#[]⟩ : ByteArray), .int .i64 0]) ?_ 1 _ rfl; (with_reducible repeat (first | refine blk_drewN ?_ _ | refine blk_drew ?_ | refine blk_alloc ?_ _)); refine blk_put (cs := #[.string (⟨#[]⟩ : ByteArray), .string (⟨#[]⟩ : ByteArray), .int .i64 0]) ?_ 0 _ rfl; (with_reducible repeat (first | refine blk_drewN ?_ _ | refine blk_drew ?_ | refine blk_alloc ?_ _)); exact BK557.out) NB557_551.out (by simp)) (hb) (hi) ?_; clear BK549 BK550 BK557 HB HI551; intro BK549 BK550 BK557 HB HI551; (try clear hb); (try clear hb2); (try clear hk); (try clear hi)))
  (try simp only [Act.put, List.setIfInBounds_toArray, List.set_cons_zero, List.set_cons_succ])
  go_cut [] (fun wc => ∃ (kq : Nat) (x552001_3 : Int) (x552002_3 : Int) (x558000_3 : ByteArray) (x558001_3 : ByteArray) (x558002_3 : Int), Aside0 (spec_DrawAppendRecord.j1 kq l0 x552001_3 x552002_3 x558000_3 x558001_3 x558002_3 = some (r1, r2, r3, r4, r5)) ∧ Aside0 (kq ≤ k) ∧ Aside0 (wc.heap[gb549]? = some (.cells #[.string (⟨#[]⟩ : ByteArray), .string (⟨#[]⟩ : ByteArray), .int .i64 0] 26 (0, 0))) ∧ Aside0 (wc.heap[gb550]? = some (.cells #[.string (⟨#[]⟩ : ByteArray), .string (⟨#[]⟩ : ByteArray)] 40 (0, 0))) ∧ Aside0 (wc.heap[gb557]? = some (.cells #[.string x558000_3, .string x558001_3, .int .i64 x558002_3] 26 (0, 0))) ∧ Aside0 (IsS70 w wc gb551 l0 x552001_3 x552002_3) ∧ Aside0 (Below w.heap.size w wc))
  case first =>
    have H := HC4.out
    clear HC4
    by_cases c15 : t558 = true
    rotate_left
    · replace c15 := Bool.eq_false_iff.mpr c15
      subst c15
      rw [if_neg (show ¬ (false = true) by decide)] at H
      have H' := Aside0.mk H
      clear H
      go_wp2
      go_meet
      case rel => exact ⟨_, (t559), (t560), (t552), (t553), (t554), H', ⟨zz1⟩, ⟨zz17⟩, ⟨zz18⟩, ⟨zz19⟩, ⟨zz81⟩, ⟨zz80⟩⟩
    subst c15
    rw [if_pos rfl] at H
    replace H := Option.bind_eq_some_iff.mp H
    obtain ⟨⟨t561, t562, t563⟩, A160, H⟩ := H
    (try dsimp only at H)
    have A16 := Aside0.mk A160
    clear A160
    have H' := Aside0.mk H
    clear H
    have hnb17 := NB557_549.out
    have hnc17 := NB549_557.out
    have hnb18 := NB557_550.out
    have hnc18 := NB550_557.out
    have hnb19 := NB557_551.out
    have hnc19 := NB551_557.out
    obtain ⟨hcz20_0, hcz20_1, hcz20_2, hfz20_0, hfz20_1, hfz20_2⟩ := qc3 BK557.out
    go_wp2_with (first | ((with_reducible refine gate_callee (f := 54) rfl ?_); refine qcall 16 Tryd.func54 rfl #[.pointer (some ⟨gb551, 0, none⟩), .int .i64 2] ?_; (with_reducible refine (spec_l1Cur_pick.calls gb551 l0 t559 t560 2 t561 t562 t563 w _ ?side1 ?side2 A16.out).mono ?_); (case side1 => exact zz81); (case side2 => exact zz80); rintro e w21 ⟨rfl, hi, hb, hk⟩; refine ⟨_, rfl, ?_⟩; refine qs5 (KeepBut.blk hk (g' := gb549) (o := .cells #[.string (⟨#[]⟩ : ByteArray), .string (⟨#[]⟩ : ByteArray), .int .i64 0] 26 (0, 0)) zz102 NB549_551.out (by simp)) (KeepBut.blk hk (g' := gb550) (o := .cells #[.string (⟨#[]⟩ : ByteArray), .string (⟨#[]⟩ : ByteArray)] 40 (0, 0)) zz103 NB550_551.out (by simp)) (KeepBut.blk hk (g' := gb557) (o := .cells #[.string (⟨#[]⟩ : ByteArray), .string (⟨#[]⟩ : ByteArray), .int .i64 0] 26 (0, 0)) (by (with_reducible repeat (first | refine blk_drewN ?_ _ | refine blk_drew ?_ | refine blk_alloc ?_ _)); refine blk_put (cs := #[.string (⟨#[]⟩ : ByteArray), .string (⟨#[]⟩ : ByteArray), .int .i64 t554]) ?_ 2 _ rfl; (with_reducible repeat (first | refine blk_drewN ?_ _ | refine blk_drew ?_ | refine blk_alloc ?_ _)); refine blk_put (cs := #[.string (⟨#[]⟩ : ByteArray), .string t553, .int .i64 t554]) ?_ 1 _ rfl; (with_reducible repeat (first | refine blk_drewN ?_ _ | refine blk_drew ?_ | refine blk_alloc ?_ _)); refine blk_put (cs := #[.string t552, .string t553, .int .i64 t554]) ?_ 0 _ rfl; (with_reducible repeat (first | refine blk_drewN ?_ _ | refine blk_drew ?_ | refine blk_alloc ?_ _)); exact BK557.out) NB557_551.out (by simp)) (hb) (hi) ?_; clear BK549 BK550 BK557 HB HI551; intro BK549 BK550 BK557 HB HI551; (try clear hb); (try clear hb2); (try clear hk); (try clear hi)))
    go_loopg [6] k (fun kq v6 w' => ∃ (x6_1 : Int) (x558000_1 : ByteArray) (x558001_1 : ByteArray) (x558002_1 : Int), v6 = .int .i64 x6_1 ∧ Aside0 (spec_DrawAppendRecord.l0 kq x6_1 l0 t562 t563 x558000_1 x558001_1 x558002_1 = some (r1, r2, r3, r4, r5)) ∧ Aside0 (kq ≤ k) ∧ Aside0 (w'.heap[gb549]? = some (.cells #[.string (⟨#[]⟩ : ByteArray), .string (⟨#[]⟩ : ByteArray), .int .i64 0] 26 (0, 0))) ∧ Aside0 (w'.heap[gb550]? = some (.cells #[.string (⟨#[]⟩ : ByteArray), .string (⟨#[]⟩ : ByteArray)] 40 (0, 0))) ∧ Aside0 (w'.heap[gb557]? = some (.cells #[.string x558000_1, .string x558001_1, .int .i64 x558002_1] 26 (0, 0))) ∧ Aside0 (IsS70 w w' gb551 l0 t562 t563) ∧ Aside0 (Below w.heap.size w w'))
    case atStart => exact ⟨(wrap64 (59 + t561)), ((⟨#[]⟩ : ByteArray)), ((⟨#[]⟩ : ByteArray)), (0), zz3, H', ⟨Nat.le_refl _⟩, ⟨zz17⟩, ⟨zz18⟩, ⟨zz19⟩, ⟨zz81⟩, ⟨zz80⟩⟩
    case round =>
      clear H'
      try clear c1
      try clear p2
      try clear c3
      try clear c5
      try clear p6
      try clear c10
      try clear c11
      try clear c12
      try clear c15
      try clear c17
      try clear c18
      try clear c19
      try clear hcz13_0
      try clear hcz13_1
      try clear hcz13_2
      try clear hcz20_0
      try clear hcz20_1
      try clear hcz20_2
      try clear hfz13_0
      try clear hfz13_1
      try clear hfz13_2
      try clear hfz20_0
      try clear hfz20_1
      try clear hfz20_2
      obtain ⟨x6_1, x558000_1, x558001_1, x558002_1, rfl, HA, HK1, BK549, BK550, BK557, HI551, HB⟩ := hrel
      cases gk with
      | zero => exact absurd HA.out (by simp [spec_DrawAppendRecord.l0])
      | succ k1 =>
        have H := HA.out
        clear HA
        simp only [spec_DrawAppendRecord.l0] at H
        by_cases c22 : x6_1 > 0
        rotate_left
        · rw [if_neg c22] at H
          have c22b0 := decide_eq_false c22
          clear c22
          (first | rw [c22b0] | (simp only [i64_w, i32_w]; rw [c22b0]) | skip)
          have H' := Aside0.mk H
          clear H
          go_wp2
          go_meet
          case rel => exact ⟨_, (t562), (t563), (x558000_1), (x558001_1), (x558002_1), H', ⟨by have := HK1.out; first | omega | exact Nat.le_refl _⟩, ⟨zz17⟩, ⟨zz18⟩, ⟨zz19⟩, ⟨zz81⟩, ⟨zz80⟩⟩
        rw [if_pos c22] at H
        have c22b0 := decide_eq_true c22
        clear c22
        (first | rw [c22b0] | (simp only [i64_w, i32_w]; rw [c22b0]) | skip)
        replace H := Option.bind_eq_some_iff.mp H
        obtain ⟨⟨t564, t565, t566, t567⟩, A230, H⟩ := H
        (try dsimp only at H)
        have A23 := Aside0.mk A230
        clear A230
        have H' := Aside0.mk H
        clear H
        have hnb24 := NB557_549.out
        have hnc24 := NB549_557.out
        have hnb25 := NB557_550.out
        have hnc25 := NB550_557.out
        have hnb26 := NB557_551.out
        have hnc26 := NB551_557.out
        obtain ⟨hcz27_0, hcz27_1, hcz27_2, hfz27_0, hfz27_1, hfz27_2⟩ := qc3 BK557.out
        go_wp2_with (first | ((with_reducible refine gate_callee (f := 21) rfl ?_); refine qcall 25 Tryd.func21 rfl #[.agg #[.string x558000_1, .string x558001_1, .int .i64 x558002_1], .agg #[.string (⟨#[120]⟩ : ByteArray), .string (⟨#[]⟩ : ByteArray)]] ?_; (with_reducible refine (spec_AppendRecord.calls k1 x558000_1 x558001_1 x558002_1 (⟨#[120]⟩ : ByteArray) (⟨#[]⟩ : ByteArray) t564 t565 t566 t567 _ A23.out).mono ?_); rintro e w28 ⟨rfl, hb⟩; refine ⟨_, rfl, ?_⟩; refine qs5 (blk_below (qb BK549.out) hb) (blk_below (qb BK550.out) hb) (blk_below (qb BK557.out) hb) (IsS70.below zz81 hb) (below_step zz80 hb) ?_; clear BK549 BK550 BK557 HI551 HB; intro BK549 BK550 BK557 HI551 HB; (try clear hb); (try clear hb2); (try clear hk); (try clear hi); obtain ⟨hcz29_0, hcz29_1, hcz29_2, hfz29_0, hfz29_1, hfz29_2⟩ := qc3 BK557.out))
        go_roundg k1
        case measure => have := HK1.out; omega
        case rel => exact ⟨(wrap64 (x6_1 - 1)), (t564), (t565), (t566), zz3, H', ⟨zz0⟩, ⟨zz102⟩, ⟨zz103⟩, ⟨by (with_reducible repeat (first | refine blk_drewN ?_ _ | refine blk_drew ?_ | refine blk_alloc ?_ _)); refine blk_put (cs := #[.string t564, .string t565, .int .i64 x558002_1]) ?_ 2 _ rfl; (with_reducible repeat (first | refine blk_drewN ?_ _ | refine blk_drew ?_ | refine blk_alloc ?_ _)); refine blk_put (cs := #[.string t564, .string x558001_1, .int .i64 x558002_1]) ?_ 1 _ rfl; (with_reducible repeat (first | refine blk_drewN ?_ _ | refine blk_drew ?_ | refine blk_alloc ?_ _)); refine blk_put (cs := #[.string x558000_1, .string x558001_1, .int .i64 x558002_1]) ?_ 0 _ rfl; (with_reducible repeat (first | refine blk_drewN ?_ _ | refine blk_drew ?_ | refine blk_alloc ?_ _)); exact BK557.out⟩, ⟨zz81⟩, ⟨zz80⟩⟩
  case rest =>
    clear HC4
    try clear c1
    try clear c2
    try clear p2
    try clear c3
    try clear c5
    try clear p6
    try clear c10
    try clear c11
    try clear c12
    try clear c15
    try clear c17
    try clear c18
    try clear c19
    try clear c21
    try clear c22
    try clear c22b0
    try clear c24
    try clear c25
    try clear c26
    try clear hcz13_0
    try clear hcz13_1
    try clear hcz13_2
    try clear hcz20_0
    try clear hcz20_1
    try clear hcz20_2
    try clear hcz27_0
    try clear hcz27_1
    try clear hcz27_2
    try clear hcz29_0
    try clear hcz29_1
    try clear hcz29_2
    try clear hfz13_0
    try clear hfz13_1
    try clear hfz13_2
    try clear hfz20_0
    try clear hfz20_1
    try clear hfz20_2
    try clear hfz27_0
    try clear hfz27_1
    try clear hfz27_2
    try clear hfz29_0
    try clear hfz29_1
    try clear hfz29_2
    try clear p2
    try clear p6
    obtain ⟨kq, x552001_3, x552002_3, x558000_3, x558001_3, x558002_3, HA, HJ3, BK549, BK550, BK557, HI551, HB⟩ := hcut
    cases kq with
    | zero => exact absurd HA.out (by simp [spec_DrawAppendRecord.j1])
    | succ kj3 =>
      have H := HA.out
      clear HA
      simp only [spec_DrawAppendRecord.j1] at H
      replace H := Option.bind_eq_some_iff.mp H
      obtain ⟨⟨t568, t569, t570, t571⟩, A300, H⟩ := H
      (try dsimp only at H)
      have A30 := Aside0.mk A300
      clear A300
      simp only [Option.some.injEq, Prod.mk.injEq] at H
      obtain ⟨rfl, rfl, rfl, rfl, rfl⟩ := H
      try go_wp2
      refine qs5 (blk_drew BK549.out) (blk_drew BK550.out) (blk_drew BK557.out) (IsS70.drew HI551.out) (below_drew1 HB.out) ?_; clear BK549 BK550 BK557 HI551 HB; intro BK549 BK550 BK557 HI551 HB
      refine start_ (n := 5) (S := fun w' => w'.cell? ⟨gb557, 0, none⟩ = some (.string x558000_3) ∧ w'.cell? ⟨gb557, 1, none⟩ = some (.string x558001_3) ∧ w'.cell? ⟨gb557, 2, none⟩ = some (.int .i64 x558002_3)) (ds := []) #[false, false, false, false, false] (by kernel_rfl) rfl rfl ⟨(blk_cell BK557.out 0).trans rfl, (blk_cell BK557.out 1).trans rfl, (blk_cell BK557.out 2).trans rfl⟩ (fun hHeld => ?_)
      generalize wc.drew = w31 at BK549 BK550 BK557 HI551 HB hHeld ⊢
      refine pure_ (i := 1) (N := some 29) (v := ?_) (a' := ?_) #[false, true, false, false, false] rfl rfl (by kernel_rfl) (fun _ _ _ h => h) (Or.inl ⟨by rfl, ?_⟩) ?_ ?_
      rotate_left
      · intro w'
        go_simp
        with_reducible rfl
      rotate_left
      · simp only [Act.put, List.setIfInBounds_toArray, List.set_cons_zero, List.set_cons_succ, i64_w, i32_w]
        rfl
      refine take_ (i := 0) (N := some 28) (v := ?_) (a' := ?_) #[true, true, false, false, false] rfl rfl (by kernel_rfl) (fun _ _ _ h => h) (Or.inl ⟨by rfl, ?_⟩) hHeld ?_ ?_
      rotate_left
      · rintro w' ⟨s0, s1, s2⟩
        go_simp
        with_reducible rfl
      rotate_left
      · simp only [Act.put, List.setIfInBounds_toArray, List.set_cons_zero, List.set_cons_succ, i64_w, i32_w]
        rfl
      refine one_ (i := 2) (N := some 30) #[true, true, true, false, false] rfl rfl (by kernel_rfl) (by decide) (fun K hK => ?_)
      refine goes_ Tryd.func50 (by kernel_rfl) rfl #[.pointer (some ⟨gb551, 0, none⟩)] (by rfl) rfl rfl zz21 ?_
      with_reducible refine (spec_l1Cur_logRecord.calls gb551 l0 x552001_3 x552002_3 t568 t569 t570 t571 w _ ?side1 ?side2 A30.out).mono ?_
      (case side1 => exact zz81)
      (case side2 => exact zz80)
      rintro e w32 ⟨rfl, hi, hb, hk⟩
      refine ⟨_, rfl, ?_⟩
      refine qs5 (KeepBut.blk hk (qb BK549.out) NB549_551.out (by simp)) (KeepBut.blk hk (qb BK550.out) NB550_551.out (by simp)) (KeepBut.blk hk (qb BK557.out) NB557_551.out (by simp)) (hb) (hi) ?_; clear BK549 BK550 BK557 HB HI551; intro BK549 BK550 BK557 HB HI551
      (try clear hb)
      (try clear hb2)
      (try clear hk)
      (try clear hi)
      refine hK.out _ _ ⟨(blk_cell BK557.out 0).trans rfl, (blk_cell BK557.out 1).trans rfl, (blk_cell BK557.out 2).trans rfl⟩ (fun hHeld => ?_)
      clear hK K
      refine norm_ (a' := ?_) ?_ ?_
      rotate_left
      · show Act.put _ (some 30) _ = _
        simp only [Act.put, List.setIfInBounds_toArray, List.set_cons_zero, List.set_cons_succ, i64_w, i32_w]
        rfl
      refine one_ (i := 3) (N := none) #[true, true, true, true, false] rfl rfl (by kernel_rfl) (by decide) (fun K hK => ?_)
      have hs33 : w32.cell? ⟨gb549, 0, none⟩ = some (.string (⟨#[]⟩ : ByteArray)) := (blk_cell BK549.out 0).trans rfl
      have hfs33 := blk_frozen BK549.out 0
      have hns33_1 := NB550_549.out
      have hns33_2 := NB557_549.out
      have hms33_1 := NB549_550.out
      have hms33_2 := NB549_557.out
      have hs34 : w32.cell? ⟨gb549, 1, none⟩ = some (.string (⟨#[]⟩ : ByteArray)) := (blk_cell BK549.out 1).trans rfl
      have hfs34 := blk_frozen BK549.out 1
      have hns34_1 := NB550_549.out
      have hns34_2 := NB557_549.out
      have hms34_1 := NB549_550.out
      have hms34_2 := NB549_557.out
      have hs35 : w32.cell? ⟨gb549, 2, none⟩ = some (.int .i64 0) := (blk_cell BK549.out 2).trans rfl
      have hfs35 := blk_frozen BK549.out 2
      have hns35_1 := NB550_549.out
      have hns35_2 := NB557_549.out
      have hms35_1 := NB549_550.out
      have hms35_2 := NB549_557.out
      refine skip_ (w1 := ?_) (by rfl) rfl ?_ ?_
      rotate_left
      · go_simp
        rfl
      refine hK.out _ _ ⟨((cell_far (p := ⟨gb549, _, none⟩) NB557_549.out _).trans (((cell_far (p := ⟨gb549, _, none⟩) NB557_549.out _).trans (((cell_far (p := ⟨gb549, _, none⟩) NB557_549.out _).trans (hHeld.1)))))), ((cell_far (p := ⟨gb549, _, none⟩) NB557_549.out _).trans (((cell_far (p := ⟨gb549, _, none⟩) NB557_549.out _).trans (((cell_far (p := ⟨gb549, _, none⟩) NB557_549.out _).trans (hHeld.2.1)))))), ((cell_far (p := ⟨gb549, _, none⟩) NB557_549.out _).trans (((cell_far (p := ⟨gb549, _, none⟩) NB557_549.out _).trans (((cell_far (p := ⟨gb549, _, none⟩) NB557_549.out _).trans (hHeld.2.2))))))⟩ (fun hHeld => ?_)
      clear hK K
      refine one_ (i := 4) (N := none) #[true, true, true, true, true] rfl rfl (by kernel_rfl) (by decide) (fun K hK => ?_)
      have hs36 : w32.cell? ⟨gb550, 0, none⟩ = some (.string (⟨#[]⟩ : ByteArray)) := (blk_cell BK550.out 0).trans rfl
      have hfs36 := blk_frozen BK550.out 0
      have hns36_0 := NB549_550.out
      have hns36_2 := NB557_550.out
      have hms36_0 := NB550_549.out
      have hms36_2 := NB550_557.out
      have hs37 : w32.cell? ⟨gb550, 1, none⟩ = some (.string (⟨#[]⟩ : ByteArray)) := (blk_cell BK550.out 1).trans rfl
      have hfs37 := blk_frozen BK550.out 1
      have hns37_0 := NB549_550.out
      have hns37_2 := NB557_550.out
      have hms37_0 := NB550_549.out
      have hms37_2 := NB550_557.out
      refine skip_ (w1 := ?_) (by rfl) rfl ?_ ?_
      rotate_left
      · go_simp
        rfl
      refine hK.out _ _ ⟨((cell_far (p := ⟨gb550, _, none⟩) NB557_550.out _).trans (((cell_far (p := ⟨gb550, _, none⟩) NB557_550.out _).trans (hHeld.1)))), ((cell_far (p := ⟨gb550, _, none⟩) NB557_550.out _).trans (((cell_far (p := ⟨gb550, _, none⟩) NB557_550.out _).trans (hHeld.2.1)))), ((cell_far (p := ⟨gb550, _, none⟩) NB557_550.out _).trans (((cell_far (p := ⟨gb550, _, none⟩) NB557_550.out _).trans (hHeld.2.2))))⟩ (fun hHeld => ?_)
      clear hK K
      refine done_ (by kernel_rfl) ?_
      try go_wp2
      refine bodyPost_ret (results_cc rfl _ _ gb549 gb550 26 40 #[.string x558000_3, .string x558001_3, .int .i64 x558002_3] #[.string t568, .string t569] (0, 0) (0, 0) _ _ rfl (by (with_reducible repeat (first | refine blk_drewN ?_ _ | refine blk_drew ?_ | refine blk_alloc ?_ _)); refine blk_far ?_ NB549_550.out _; (with_reducible repeat (first | refine blk_drewN ?_ _ | refine blk_drew ?_ | refine blk_alloc ?_ _)); refine blk_far ?_ NB549_550.out _; (with_reducible repeat (first | refine blk_drewN ?_ _ | refine blk_drew ?_ | refine blk_alloc ?_ _)); refine blk_put (cs := #[.string x558000_3, .string x558001_3, .int .i64 0]) ?_ 2 _ rfl; (with_reducible repeat (first | refine blk_drewN ?_ _ | refine blk_drew ?_ | refine blk_alloc ?_ _)); refine blk_put (cs := #[.string x558000_3, .string (⟨#[]⟩ : ByteArray), .int .i64 0]) ?_ 1 _ rfl; (with_reducible repeat (first | refine blk_drewN ?_ _ | refine blk_drew ?_ | refine blk_alloc ?_ _)); refine blk_put (cs := #[.string (⟨#[]⟩ : ByteArray), .string (⟨#[]⟩ : ByteArray), .int .i64 0]) ?_ 0 _ rfl; (with_reducible repeat (first | refine blk_drewN ?_ _ | refine blk_drew ?_ | refine blk_alloc ?_ _)); exact BK549.out) Tryd.underlying26 rfl (by kernel_rfl) rfl (by (with_reducible repeat (first | refine blk_drewN ?_ _ | refine blk_drew ?_ | refine blk_alloc ?_ _)); refine blk_put (cs := #[.string t568, .string (⟨#[]⟩ : ByteArray)]) ?_ 1 _ rfl; (with_reducible repeat (first | refine blk_drewN ?_ _ | refine blk_drew ?_ | refine blk_alloc ?_ _)); refine blk_put (cs := #[.string (⟨#[]⟩ : ByteArray), .string (⟨#[]⟩ : ByteArray)]) ?_ 0 _ rfl; (with_reducible repeat (first | refine blk_drewN ?_ _ | refine blk_drew ?_ | refine blk_alloc ?_ _)); refine blk_far ?_ NB550_549.out _; (with_reducible repeat (first | refine blk_drewN ?_ _ | refine blk_drew ?_ | refine blk_alloc ?_ _)); refine blk_far ?_ NB550_549.out _; (with_reducible repeat (first | refine blk_drewN ?_ _ | refine blk_drew ?_ | refine blk_alloc ?_ _)); refine blk_far ?_ NB550_549.out _; (with_reducible repeat (first | refine blk_drewN ?_ _ | refine blk_drew ?_ | refine blk_alloc ?_ _)); exact BK550.out) Tryd.underlying40 rfl (by kernel_rfl)) rfl ?_
      exact ⟨zz7, zz80⟩

end

section
attribute [local go_sem high] run_add_cat run_slice_cat run_slice_cat_h run_slice_cat_l run_slice_cat_all
/-! ### spec_IsValidRecord: function 38 -/
def spec_IsValidRecord.f (k : Nat) (a0_0 : ByteArray) (a0_1 : ByteArray) : Option (Bool) := (spec_l27Good.f k a0_0 a0_1).bind fun t573 => (some t573)
set_option maxHeartbeats 8000000 in
set_option maxRecDepth 100000 in
theorem spec_IsValidRecord.calls (k : Nat) (a0_0 : ByteArray) (a0_1 : ByteArray) (r : Bool) (w : World) (h : spec_IsValidRecord.f k a0_0 a0_1 = some r) :
    Calls Tryd.prog 38 #[.agg #[.string a0_0, .string a0_1]] w fun e w' => e = .returned (.bool r) ∧ Below w.heap.size w w' := by
  have hu40 := Tryd.underlying40
  have HB := Aside0.mk (Below.refl w.heap.size w)
  have H : ((spec_l27Good.f k a0_0 a0_1).bind fun t573 => (some t573)) = some r := h
  clear h
  replace H := Option.bind_eq_some_iff.mp H
  obtain ⟨t573, A20, H⟩ := H
  replace H : (some t573) = some r := H
  have A2 := Aside0.mk A20
  clear A20
  obtain rfl := Option.some.inj H
  go_enter Tryd.func38, Tryd.ntmps38
  go_wp2_with (first | ((with_reducible refine gate_dst (N := 1) rfl ?_); refine qbox (N := 1) (cs := #[.string a0_0, .string a0_1]) (t := 40) ?_; intro gb572 hg w3 hbox hb; refine qs4 (below_step zz20 hb) (hbox) ((zz119 : w.heap.size ≤ gb572)) ((zz119 : w.heap.size ≤ gb572)) ?_; clear HB; intro HB BK572 GW572 GE572; clear hb hbox hg; obtain ⟨hcz4_0, hcz4_1, hfz4_0, hfz4_1⟩ := qc2 BK572.out) | ((with_reducible refine gate_callee (f := 44) rfl ?_); refine qcall 4 Tryd.func44 rfl #[.agg #[.string a0_0, .string a0_1]] ?_; (with_reducible refine (spec_l27Good.calls k a0_0 a0_1 t573 _ A2.out).mono ?_); rintro e w5 ⟨rfl, hb⟩; refine ⟨_, rfl, ?_⟩; refine qs2 (blk_below (qb BK572.out) hb) (below_step (by repeat (first | (with_reducible first | exact HB.out | apply below_alloc | apply pw_below_drewN | apply below_drew1 | refine below_set ?_ GE572.out) | exact HB.out)) hb) ?_; clear BK572 HB; intro BK572 HB; (try clear hb); (try clear hb2); (try clear hk); (try clear hi)))
  go_ret
  exact ⟨zz7, by repeat (first | (with_reducible first | exact HB.out | apply below_alloc | apply pw_below_drewN | apply below_drew1 | refine below_set ?_ GE572.out) | exact HB.out)⟩

end

end Go.Proofs.YtokmidpeeejahaaDoor.G

-- Written by a program of this session (wip/pd.py), which calls the kit's print; externals' contracts by hand.
namespace Go.Proofs.YtokmidpeeejahaaDoor.G
open Go.Proofs.YtokmidpeeejahaaDoorQ
open Go.RowKit Go.Proofs.YtokmidpeeejahaaDoorW.PrintWords Go.Proofs.YtokmidpeeejahaaDoorW.PrintLast Go.Proofs.YtokmidpeeejahaaDoorW.PrintMore
attribute [local go_sem] max2_int min2_int max_two min_two max_three min_three max_four min_four   -- for this text's walks alone
set_option linter.unusedVariables false
set_option linter.unusedSimpArgs false

/-! ### spec_CrashLog: function 15 (by hand) -/
/-! ### impl_CrashLog: function 16 (by hand) -/
section
attribute [local go_sem high] run_add_cat run_slice_cat run_slice_cat_h run_slice_cat_l run_slice_cat_all
/-! ### laws_FnExactCrashLog: function 4 -/
end

section
attribute [local go_sem high] run_add_cat run_slice_cat run_slice_cat_h run_slice_cat_l run_slice_cat_all
/-! ### spec_DrawCrashLog: function 39 -/
end

end Go.Proofs.YtokmidpeeejahaaDoor.G

-- Written by a program of this session (wip/pd.py), which calls the kit's print; externals' contracts by hand.
namespace Go.Proofs.YtokmidpeeejahaaDoor.G
open Go.Proofs.YtokmidpeeejahaaDoorQ
open Go.RowKit Go.Proofs.YtokmidpeeejahaaDoorW.PrintWords Go.Proofs.YtokmidpeeejahaaDoorW.PrintLast Go.Proofs.YtokmidpeeejahaaDoorW.PrintMore
attribute [local go_sem] max2_int min2_int max_two min_two max_three min_three max_four min_four   -- for this text's walks alone
set_option linter.unusedVariables false
set_option linter.unusedSimpArgs false

theorem eqA40 (d : Nat) (w : World) (x0 y0 : ByteArray) (x1 y1 : ByteArray) :
    (Op.equalIn (d + 2) 40 (.agg #[.string x0, .string x1]) (.agg #[.string y0, .string y1])).run Tryd.prog w = .ok (x0.toList == y0.toList && (x1.toList == y1.toList)) w := by
  refine eqA_of Tryd.underlying40 (by kernel_rfl) ?_
  refine eqf_cons (by rfl) (by go_simp; rfl) (by go_simp; rfl) (by go_simp) ?_
  exact eqf_last (by rfl) (by go_simp; rfl) (by go_simp; rfl) (by go_simp)
end Go.Proofs.YtokmidpeeejahaaDoor.G

-- Written by a program of this session (wip/pd.py), which calls the kit's print; externals' contracts by hand.
namespace Go.Proofs.YtokmidpeeejahaaDoor.G
open Go.Proofs.YtokmidpeeejahaaDoorQ
open Go.RowKit Go.Proofs.YtokmidpeeejahaaDoorW.PrintWords Go.Proofs.YtokmidpeeejahaaDoorW.PrintLast Go.Proofs.YtokmidpeeejahaaDoorW.PrintMore
attribute [local go_sem] max2_int min2_int max_two min_two max_three min_three max_four min_four   -- for this text's walks alone
set_option linter.unusedVariables false
set_option linter.unusedSimpArgs false

attribute [local go_sem high] eqA40
section
attribute [local go_sem high] run_add_cat run_slice_cat run_slice_cat_h run_slice_cat_l run_slice_cat_all
/-! ### laws_FnCrashRecovery: function 10 -/
mutual
def laws_FnCrashRecovery.j0 : Nat → ByteArray → Bool → Bool → ByteArray → ByteArray → Int → Option (Bool)
  | 0, _, _, _, _, _, _ => none
  | k + 1, x6, x7, x47, x652000, x652001, x652002 => if x47 = true then (some false) else (if x7 = true then ((impl_RecoverLog.f k x6).bind fun bt656 => ((impl_LogRecords.f k bt656.1 bt656.2.1 bt656.2.2.1).bind fun bt662 => ((spec_LogRecords.f k x652000 x652001 x652002).bind fun bt666 => (if bt656.2.2.2.2 = true then (if bt656.2.2.2.1 > (x6.size : Int) then (laws_FnCrashRecovery.j1 k x6 bt656.2.2.2.1 bt662.1 bt666.1 true bt656.1 bt656.2.1 bt656.2.2.1) else (if bt656.2.2.2.1 < (x652000.size : Int) then (laws_FnCrashRecovery.j1 k x6 bt656.2.2.2.1 bt662.1 bt666.1 true bt656.1 bt656.2.1 bt656.2.2.1) else (laws_FnCrashRecovery.j1 k x6 bt656.2.2.2.1 bt662.1 bt666.1 (decide ((bt662.1.length : Int) > (bt666.1.length : Int))) bt656.1 bt656.2.1 bt656.2.2.1))) else (laws_FnCrashRecovery.j1 k x6 bt656.2.2.2.1 bt662.1 bt666.1 true bt656.1 bt656.2.1 bt656.2.2.1))))) else (some (x6.toList == ([] : List UInt8))))
def laws_FnCrashRecovery.j1 : Nat → ByteArray → Int → List (S40) → List (S40) → Bool → ByteArray → ByteArray → Int → Option (Bool)
  | 0, _, _, _, _, _, _, _, _ => none
  | k + 1, x6, x11, x13, x15, x89, x662000, x662001, x662002 => if x89 = true then (some false) else (laws_FnCrashRecovery.l0 k x6 x11 x13 x15 0 x662000 x662001 x662002)
def laws_FnCrashRecovery.l0 : Nat → ByteArray → Int → List (S40) → List (S40) → Int → ByteArray → ByteArray → Int → Option (Bool)
  | 0, _, _, _, _, _, _, _, _ => none
  | k + 1, x6, x11, x13, x15, x17, x662000, x662001, x662002 => if x17 < (x13.length : Int) then (if 0 ≤ x17 then (if x17 < (x15.length : Int) then (if (!((((rd_T40 x13 x17).f0).toList) == (((rd_T40 x15 x17).f0).toList)) || (!((((rd_T40 x13 x17).f1).toList) == (((rd_T40 x15 x17).f1).toList)))) = true then (some false) else (laws_FnCrashRecovery.l0 k x6 x11 x13 x15 (wrap64 (x17 + 1)) x662000 x662001 x662002)) else (none)) else (none)) else ((impl_IsValidLog.f k x662000 x662001 x662002).bind fun t672 => (if t672 = true then (if 0 ≤ x11 then (if x11 ≤ (x6.size : Int) then (laws_FnCrashRecovery.j3 k (x662000.toList == (subs x6 0 (x11 : Int).toNat).toList)) else (none)) else (none)) else (laws_FnCrashRecovery.j3 k false)))
def laws_FnCrashRecovery.j3 : Nat → Bool → Option (Bool)
  | 0, _ => none
  | k + 1, x2 => some x2
end
end

end Go.Proofs.YtokmidpeeejahaaDoor.G

-- Written by a program of this session (wip/pd.py), which calls the kit's print; externals' contracts by hand.
namespace Go.Proofs.YtokmidpeeejahaaDoor.G
open Go.Proofs.YtokmidpeeejahaaDoorQ
open Go.RowKit Go.Proofs.YtokmidpeeejahaaDoorW.PrintWords Go.Proofs.YtokmidpeeejahaaDoorW.PrintLast Go.Proofs.YtokmidpeeejahaaDoorW.PrintMore
attribute [local go_sem] max2_int min2_int max_two min_two max_three min_three max_four min_four   -- for this text's walks alone
set_option linter.unusedVariables false
set_option linter.unusedSimpArgs false

theorem eqA26 (d : Nat) (w : World) (x0 y0 : ByteArray) (x1 y1 : ByteArray) (x2 y2 : Int) :
    (Op.equalIn (d + 2) 26 (.agg #[.string x0, .string x1, .int .i64 x2]) (.agg #[.string y0, .string y1, .int .i64 y2])).run Tryd.prog w = .ok (x0.toList == y0.toList && (x1.toList == y1.toList && (x2 == y2))) w := by
  refine eqA_of Tryd.underlying26 (by kernel_rfl) ?_
  refine eqf_cons (by rfl) (by go_simp; rfl) (by go_simp; rfl) (by go_simp) ?_
  refine eqf_cons (by rfl) (by go_simp; rfl) (by go_simp; rfl) (by go_simp) ?_
  exact eqf_last (by rfl) (by go_simp; rfl) (by go_simp; rfl) (by go_simp)
end Go.Proofs.YtokmidpeeejahaaDoor.G
