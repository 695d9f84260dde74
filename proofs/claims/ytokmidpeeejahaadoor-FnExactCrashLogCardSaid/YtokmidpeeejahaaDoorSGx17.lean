-- Written by a program of this session (wip/pd.py), which calls the kit's print; externals' contracts by hand.
import Derived.Test.YtokmidpeeejahaaDoorSGx0
import Derived.Test.YtokmidpeeejahaaDoorSGx3
import Derived.Test.YtokmidpeeejahaaDoorSGx5
import Derived.Test.YtokmidpeeejahaaDoorSGx7
import Derived.Test.YtokmidpeeejahaaDoorSGx8
import Derived.Test.YtokmidpeeejahaaDoorSGx13
import Derived.Test.YtokmidpeeejahaaDoorSGx14
import Derived.Test.YtokmidpeeejahaaDoorSGx15
namespace Go.Proofs.YtokmidpeeejahaaDoor.G
open Go.RowKit Go.Proofs.YtokmidpeeejahaaDoorW.PrintWords Go.Proofs.YtokmidpeeejahaaDoorW.PrintLast Go.Proofs.YtokmidpeeejahaaDoorW.PrintMore
attribute [local go_sem] max2_int min2_int max_two min_two max_three min_three max_four min_four   -- for this text's walks alone
set_option linter.unusedVariables false
set_option linter.unusedSimpArgs false

section
attribute [local go_sem high] run_add_cat run_slice_cat run_slice_cat_h run_slice_cat_l run_slice_cat_all
/-! ### spec_l1Cur_anyLog: function 58 -/
end

section
attribute [local go_sem high] run_add_cat run_slice_cat run_slice_cat_h run_slice_cat_l run_slice_cat_all
/-! ### spec_DrawAppendRecord: function 36 -/
mutual
def spec_DrawAppendRecord.j1 : Nat → List Int → Int → Int → ByteArray → ByteArray → Int → Option (ByteArray × ByteArray × Int × ByteArray × ByteArray)
  | 0, _, _, _, _, _, _ => none
  | k + 1, x552000, x552001, x552002, x558000, x558001, x558002 => (spec_l1Cur_logRecord.f x552000 x552001 x552002).bind fun bt568 => (some (x558000, x558001, x558002, bt568.1, bt568.2.1))
def spec_DrawAppendRecord.l0 : Nat → Int → List Int → Int → Int → ByteArray → ByteArray → Int → Option (ByteArray × ByteArray × Int × ByteArray × ByteArray)
  | 0, _, _, _, _, _, _, _ => none
  | k + 1, x6, x552000, x552001, x552002, x558000, x558001, x558002 => if x6 > 0 then ((spec_AppendRecord.f k x558000 x558001 x558002 (⟨#[120]⟩ : ByteArray) (⟨#[]⟩ : ByteArray)).bind fun bt564 => (spec_DrawAppendRecord.l0 k (wrap64 (x6 - 1)) x552000 x552001 x552002 bt564.1 bt564.2.1 bt564.2.2.1)) else (spec_DrawAppendRecord.j1 k x552000 x552001 x552002 x558000 x558001 x558002)
end
end

section
attribute [local go_sem high] run_add_cat run_slice_cat run_slice_cat_h run_slice_cat_l run_slice_cat_all
/-! ### spec_IsValidRecord: function 38 -/
end

-- NOT PRINTED: function 9 (laws_FnLog)

/-! ### spec_CrashLog: function 15 (by hand) -/
def spec_CrashLog.f (k : Nat) (a0_0 a0_1 : ByteArray) (a0_2 : Int) (a1 : Int) (a2 : Bool) : Option (ByteArray × Bool) :=
  (spec_l27Log.f k a0_0 a0_1 a0_2).bind fun t => if t = true then (spec_l1In.f a1 0 (a0_1.size : Int)).bind fun u => if u = true then (if 0 ≤ a1 ∧ a1 ≤ (a0_1.size : Int) then (if a0_0.size + a1.toNat ≤ 9223372036854775807 then some (cat a0_0 (tear a0_1 a1.toNat a2), true) else none) else none) else some (⟨#[]⟩, false) else some (⟨#[]⟩, false)
set_option maxHeartbeats 1000000 in
set_option maxRecDepth 100000 in
theorem spec_CrashLog.calls (k : Nat) (a0_0 a0_1 : ByteArray) (a0_2 : Int) (a1 : Int) (a2 : Bool) (r1 : ByteArray) (r2 : Bool) (w : World) (h : spec_CrashLog.f k a0_0 a0_1 a0_2 a1 a2 = some (r1, r2)) :
    Calls Tryd.prog 15 #[.agg #[.string a0_0, .string a0_1, .int .i64 a0_2], .int .i64 a1, .bool a2] w fun e w' => e = .returned (.tuple #[.string r1, .bool r2]) ∧ Below w.heap.size w w' := by
  unfold spec_CrashLog.f at h
  obtain ⟨t, ht, h⟩ := Option.bind_eq_some_iff.mp h
  have hcv := fun t => spec_l27Log.calls k a0_0 a0_1 a0_2 t (w.alloc (.cells #[.string a0_0, .string a0_1, .int .i64 a0_2] 26)) 
  have hu26 := Tryd.underlying26
  cases t with
  | false =>
    simp only [Bool.false_eq_true, if_false, Option.some.injEq, Prod.mk.injEq] at h
    obtain ⟨rfl, rfl⟩ := h
    have hc := hcv false ht
    clear hcv ht 
    go_enter Tryd.func15, Tryd.ntmps15
    go_wp2_with (go_at_call 40; refine hc.mono ?_; rintro e w' ⟨rfl, hb⟩; have HB := Lib.hid hb; clear hb)
    go_ret2
    exact ⟨rfl, (below_alloc (Below.refl _ _) _).trans (HB.out.mono (by simp))⟩
  | true =>
    simp only [if_true] at h
    have hc := hcv true ht
    obtain ⟨u, hu, h⟩ := Option.bind_eq_some_iff.mp h
    have hd := fun W => spec_l1In.calls a1 0 (a0_1.size : Int) u W hu
    cases u with
    | false =>
      simp only [Bool.false_eq_true, if_false, Option.some.injEq, Prod.mk.injEq] at h
      obtain ⟨rfl, rfl⟩ := h
      clear hcv ht  hu
      go_enter Tryd.func15, Tryd.ntmps15
      go_wp2_with (first | (go_at_call 40; refine hc.mono ?_; rintro e w' ⟨rfl, hb⟩; have hx := hb.cell (p := ⟨w.heap.size, 1, none⟩) (by simp); have hx2 : w'.cell? ⟨w.heap.size, 1, none⟩ = some (.string a0_1) := hx.trans (by simp); clear hx; have HB := Lib.hid hb; clear hb) | (go_at_call 42; refine (hd _).mono ?_; rintro e w'' ⟨rfl, hn⟩; have HN := Lib.hid hn; clear hn))
      go_ret2
      exact ⟨rfl, ((below_alloc (Below.refl _ _) _).trans (HB.out.mono (by simp))).trans (HN.out.below.mono (by have := HB.out.size; simp at this; omega))⟩
    | true =>
      simp only [if_true] at h
      by_cases hk : 0 ≤ a1 ∧ a1 ≤ (a0_1.size : Int)
      · rw [if_pos hk] at h
        obtain ⟨n, rfl⟩ : ∃ n : Nat, a1 = (n : Int) := ⟨a1.toNat, by omega⟩
        have hn : n ≤ a0_1.size := by omega
        simp only [Int.toNat_natCast] at h
        by_cases hsz : a0_0.size + n ≤ 9223372036854775807
        · rw [if_pos hsz] at h
          simp only [Option.some.injEq, Prod.mk.injEq] at h
          obtain ⟨rfl, rfl⟩ := h
          have hss := size_subs a0_1 n hn
          clear hcv ht  hu
          obtain ⟨s, hs'⟩ : ∃ s, a0_1.extract 0 n = s := ⟨_, rfl⟩
          have hsub : subs a0_1 0 n = s := hs'
          unfold tear
          rw [hsub] at hss ⊢
          have key : ∀ W : World, w.heap.size < W.heap.size → W.cell? ⟨w.heap.size, 0, none⟩ = some (.string a0_0) → (Lib.bytesWorld W 5 s).cell? ⟨w.heap.size, 0, none⟩ = some (.string a0_0) := fun W h1 h2 => (Lib.bytesWorld_old W 5 _ ⟨w.heap.size, 0, none⟩ h1).trans h2
          have KEY := Lib.hid key
          have hmax : n ≤ 9223372036854775807 := by omega
          have hcv2 : ∀ W : World, (convert 9 48 (.string s)).run Tryd.prog W = .ok (.slice (some ⟨W.heap.size, 0, none⟩) n (grownCap W n 0 5)) (Lib.bytesWorld W 5 s) := fun W => by
            have := Lib.run_convert_string_bytes (P := Tryd.prog) W 9 48 5 s Tryd.underlying9 Tryd.underlying48 Tryd.underlying5
            rwa [hss] at this
          by_cases htr : a2 = true ∧ 0 < n
          · rw [if_pos htr]
            obtain ⟨rfl, hn0⟩ := htr
            obtain ⟨b, hb⟩ : ∃ b, s.data.toList.getD (n - 1) 0 = b := ⟨_, rfl⟩
            rw [hb]
            have hcl : ∀ W : World, (Lib.bytesWorld W 5 s).cell? ⟨W.heap.size, n - 1, none⟩ = some (.int .u8 (b.toNat : Int)) := fun W => by rw [bytes_cell W s (n - 1) (by omega), hb]
            have hfr : ∀ W : World, (Lib.bytesWorld W 5 s).frozen? ⟨W.heap.size, n - 1, none⟩ = false := fun W => bytes_frozen W s (n - 1) (by omega)
            have h255 : ((255 - b : UInt8).toNat : Int) = 255 - (b.toNat : Int) := by
              have := b.toNat_lt
              rw [UInt8.toNat_sub]
              simp
              omega
            have hbk : ∀ (W : World) c, (convert 48 9 (.slice (some ⟨W.heap.size, 0, none⟩) n c)).run Tryd.prog ((Lib.bytesWorld W 5 s).setCell ⟨W.heap.size, n - 1, none⟩ (.int .u8 (255 - (b.toNat : Int)))) = .ok (.string ⟨(s.data.toList.set (n - 1) (255 - b)).toArray⟩) ((Lib.bytesWorld W 5 s).setCell ⟨W.heap.size, n - 1, none⟩ (.int .u8 (255 - (b.toNat : Int)))) := fun W c => by
              have := back_torn W s c (n - 1) (255 - b) (by omega) (by rw [hss]; omega)
              rw [h255, hss] at this
              exact this
            obtain ⟨z, hz'⟩ : ∃ z : ByteArray, ⟨(s.data.toList.set (n - 1) (255 - b)).toArray⟩ = z := ⟨_, rfl⟩
            have hzs : z.size = n := by
              rw [← hz']
              show (s.data.toList.set (n - 1) (255 - b)).toArray.size = n
              simp
              exact hss
            rw [hz']
            simp only [hz'] at hbk
            have hsum : (9223372036854775807 < a0_0.size + z.size) = False := eq_false (by rw [hzs]; omega)
            have hb0 : (b.toNat : Int) ≤ 255 := by have := b.toNat_lt; omega
            have HS := Lib.hid hss
            have HZ := Lib.hid hzs
            have HX := Lib.hid hz'
            have HY := Lib.hid hb
            have w1 : wrap64 ((n : Int) - 1) = (n : Int) - 1 := by unfold wrap64; omega
            have w2 : IntKind.i64.wrap ((n : Int) - 1) = (n : Int) - 1 := IntWalk.i64_in _ (by omega)
            have w3 : ((n : Int) - 1).toNat = n - 1 := by omega
            have hn1 : (n : Int) - 1 < n := by omega
            have hn2 : 0 ≤ (n : Int) - 1 := by omega
            clear key hss hsub hzs hz' hb h255
            go_enter Tryd.func15, Tryd.ntmps15
            go_wp2_with (first | (go_at_call 40; refine hc.mono ?_; rintro e w' ⟨rfl, hb⟩; have hz : w.heap.size < w'.heap.size := Nat.lt_of_lt_of_le (by simp) hb.size; have x0 : w'.cell? ⟨w.heap.size, 0, none⟩ = some (.string a0_0) := (hb.cell (p := ⟨w.heap.size, 0, none⟩) (by simp)).trans (by simp); have x1 : w'.cell? ⟨w.heap.size, 1, none⟩ = some (.string a0_1) := (hb.cell (p := ⟨w.heap.size, 1, none⟩) (by simp)).trans (by simp); have HB := Lib.hid hb; clear hb) | (go_at_call 42; (refine (hd _).mono ?_; rintro e w'' ⟨rfl, ⟨⟨q, rfl⟩⟩⟩; have y0 := KEY.out (w'.drewN q) hz x0; have y1 : (Lib.bytesWorld (w'.drewN q) 5 s).cell? ⟨w'.heap.size, n - 1, none⟩ = some (.int .u8 (b.toNat : Int)) := hcl (w'.drewN q); have y2 : (Lib.bytesWorld (w'.drewN q) 5 s).frozen? ⟨w'.heap.size, n - 1, none⟩ = false := hfr (w'.drewN q); have y3 : (convert 48 9 (.slice (some ⟨w'.heap.size, 0, none⟩) n (grownCap (w'.drewN q) n 0 5))).run Tryd.prog ((Lib.bytesWorld (w'.drewN q) 5 s).setCell ⟨w'.heap.size, n - 1, none⟩ (.int .u8 (255 - (b.toNat : Int)))) = .ok (.string z) ((Lib.bytesWorld (w'.drewN q) 5 s).setCell ⟨w'.heap.size, n - 1, none⟩ (.int .u8 (255 - (b.toNat : Int)))) := hbk (w'.drewN q) _; have hne : ¬ w.heap.size = w'.heap.size := (by omega); have hne' : ¬ w'.heap.size = w.heap.size := (by omega))))
            go_ret2
            exact ⟨rfl, ((pw_below_drewN ((below_alloc (Below.refl _ _) _).trans (HB.out.mono (by simp))) _).trans ((below_bytesWorld _ 5 s).mono (Nat.le_of_lt hz))).setCell (Nat.le_of_lt hz) _⟩
          · rw [if_neg htr]
            have HS := Lib.hid hss
            have hsum : (9223372036854775807 < a0_0.size + s.size) = False := eq_false (by rw [hss]; omega)
            have hbk : ∀ (W : World) c, (convert 48 9 (.slice (some ⟨W.heap.size, 0, none⟩) n c)).run Tryd.prog (Lib.bytesWorld W 5 s) = .ok (.string s) (Lib.bytesWorld W 5 s) := fun W c => by
              have := back_bytes W s c (by rw [hss]; omega)
              rwa [hss] at this
            clear key hss hsub
            have h9 : a2 = false ∨ n = 0 := by
              cases a2
              · exact .inl rfl
              · exact .inr (by simpa using htr)
            clear htr
            have h10 : a2 = false ∨ decide (0 < (n : Int)) = false := by
              rcases h9 with h | h
              · exact .inl h
              · exact .inr (by simp [h])
            clear h9
            have h11 : a2 = false ∨ a2 = true ∧ decide (0 < (n : Int)) = false ∧ decide (0 < n) = false := by
              cases a2
              · exact .inl rfl
              · rcases h10 with h | h
                · cases h
                · exact .inr ⟨rfl, h, by simpa using h⟩
            clear h10
            rcases h11 with rfl | ⟨rfl, h12, h13⟩
            all_goals
              go_enter Tryd.func15, Tryd.ntmps15
              go_wp2_with (first | (go_at_call 40; refine hc.mono ?_; rintro e w' ⟨rfl, hb⟩; have hz : w.heap.size < w'.heap.size := Nat.lt_of_lt_of_le (by simp) hb.size; have x0 : w'.cell? ⟨w.heap.size, 0, none⟩ = some (.string a0_0) := (hb.cell (p := ⟨w.heap.size, 0, none⟩) (by simp)).trans (by simp); have x1 : w'.cell? ⟨w.heap.size, 1, none⟩ = some (.string a0_1) := (hb.cell (p := ⟨w.heap.size, 1, none⟩) (by simp)).trans (by simp); have HB := Lib.hid hb; clear hb) | (go_at_call 42; (refine (hd _).mono ?_; rintro e w'' ⟨rfl, ⟨⟨q, rfl⟩⟩⟩; have y0 := KEY.out (w'.drewN q) hz x0; have y3 : (convert 48 9 (.slice (some ⟨w'.heap.size, 0, none⟩) n (grownCap (w'.drewN q) n 0 5))).run Tryd.prog (Lib.bytesWorld (w'.drewN q) 5 s) = .ok (.string s) (Lib.bytesWorld (w'.drewN q) 5 s) := hbk (w'.drewN q) _)))
              go_ret2
              exact ⟨rfl, (pw_below_drewN ((below_alloc (Below.refl _ _) _).trans (HB.out.mono (by simp))) _).trans ((below_bytesWorld _ 5 s).mono (Nat.le_of_lt hz))⟩
        · rw [if_neg hsz] at h; cases h
      · rw [if_neg hk] at h; cases h


/-! ### impl_CrashLog: function 16 (by hand) -/
def impl_CrashLog.f (k : Nat) (a0_0 a0_1 : ByteArray) (a0_2 : Int) (a1 : Int) (a2 : Bool) : Option (ByteArray × Bool) :=
  (impl_IsValidLog.f k a0_0 a0_1 a0_2).bind fun t => if t = true then (impl_in.f a1 0 (a0_1.size : Int)).bind fun u => if u = true then (if 0 ≤ a1 ∧ a1 ≤ (a0_1.size : Int) then (if a0_0.size + a1.toNat ≤ 9223372036854775807 then some (cat a0_0 (tear a0_1 a1.toNat a2), true) else none) else none) else some (⟨#[]⟩, false) else some (⟨#[]⟩, false)
set_option maxHeartbeats 1000000 in
set_option maxRecDepth 100000 in
theorem impl_CrashLog.calls (k : Nat) (a0_0 a0_1 : ByteArray) (a0_2 : Int) (a1 : Int) (a2 : Bool) (r1 : ByteArray) (r2 : Bool) (w : World) (hG : Gl w) (h : impl_CrashLog.f k a0_0 a0_1 a0_2 a1 a2 = some (r1, r2)) :
    Calls Tryd.prog 16 #[.agg #[.string a0_0, .string a0_1, .int .i64 a0_2], .int .i64 a1, .bool a2] w fun e w' => e = .returned (.tuple #[.string r1, .bool r2]) ∧ Below w.heap.size w w' := by
  unfold impl_CrashLog.f at h
  obtain ⟨t, ht, h⟩ := Option.bind_eq_some_iff.mp h
  have hcv := fun t => impl_IsValidLog.calls k a0_0 a0_1 a0_2 t (w.alloc (.cells #[.string a0_0, .string a0_1, .int .i64 a0_2] 26)) (hG.below (below_alloc (Below.refl _ _) _))
  have hu26 := Tryd.underlying26
  cases t with
  | false =>
    simp only [Bool.false_eq_true, if_false, Option.some.injEq, Prod.mk.injEq] at h
    obtain ⟨rfl, rfl⟩ := h
    have hc := hcv false ht
    clear hcv ht hG
    go_enter Tryd.func16, Tryd.ntmps16
    go_wp2_with (go_at_call 14; refine hc.mono ?_; rintro e w' ⟨rfl, hb⟩; have HB := Lib.hid hb; clear hb)
    go_ret2
    exact ⟨rfl, (below_alloc (Below.refl _ _) _).trans (HB.out.mono (by simp))⟩
  | true =>
    simp only [if_true] at h
    have hc := hcv true ht
    obtain ⟨u, hu, h⟩ := Option.bind_eq_some_iff.mp h
    have hd := fun W => impl_in.calls a1 0 (a0_1.size : Int) u W hu
    cases u with
    | false =>
      simp only [Bool.false_eq_true, if_false, Option.some.injEq, Prod.mk.injEq] at h
      obtain ⟨rfl, rfl⟩ := h
      clear hcv ht hG hu
      go_enter Tryd.func16, Tryd.ntmps16
      go_wp2_with (first | (go_at_call 14; refine hc.mono ?_; rintro e w' ⟨rfl, hb⟩; have hx := hb.cell (p := ⟨w.heap.size, 1, none⟩) (by simp); have hx2 : w'.cell? ⟨w.heap.size, 1, none⟩ = some (.string a0_1) := hx.trans (by simp); clear hx; have HB := Lib.hid hb; clear hb) | (go_at_call 43; refine (hd _).mono ?_; rintro e w'' ⟨rfl, hn⟩; have HN := Lib.hid hn; clear hn))
      go_ret2
      exact ⟨rfl, ((below_alloc (Below.refl _ _) _).trans (HB.out.mono (by simp))).trans (HN.out.below.mono (by have := HB.out.size; simp at this; omega))⟩
    | true =>
      simp only [if_true] at h
      by_cases hk : 0 ≤ a1 ∧ a1 ≤ (a0_1.size : Int)
      · rw [if_pos hk] at h
        obtain ⟨n, rfl⟩ : ∃ n : Nat, a1 = (n : Int) := ⟨a1.toNat, by omega⟩
        have hn : n ≤ a0_1.size := by omega
        simp only [Int.toNat_natCast] at h
        by_cases hsz : a0_0.size + n ≤ 9223372036854775807
        · rw [if_pos hsz] at h
          simp only [Option.some.injEq, Prod.mk.injEq] at h
          obtain ⟨rfl, rfl⟩ := h
          have hss := size_subs a0_1 n hn
          clear hcv ht hG hu
          obtain ⟨s, hs'⟩ : ∃ s, a0_1.extract 0 n = s := ⟨_, rfl⟩
          have hsub : subs a0_1 0 n = s := hs'
          unfold tear
          rw [hsub] at hss ⊢
          have key : ∀ W : World, w.heap.size < W.heap.size → W.cell? ⟨w.heap.size, 0, none⟩ = some (.string a0_0) → (Lib.bytesWorld W 5 s).cell? ⟨w.heap.size, 0, none⟩ = some (.string a0_0) := fun W h1 h2 => (Lib.bytesWorld_old W 5 _ ⟨w.heap.size, 0, none⟩ h1).trans h2
          have KEY := Lib.hid key
          have hmax : n ≤ 9223372036854775807 := by omega
          have hcv2 : ∀ W : World, (convert 9 48 (.string s)).run Tryd.prog W = .ok (.slice (some ⟨W.heap.size, 0, none⟩) n (grownCap W n 0 5)) (Lib.bytesWorld W 5 s) := fun W => by
            have := Lib.run_convert_string_bytes (P := Tryd.prog) W 9 48 5 s Tryd.underlying9 Tryd.underlying48 Tryd.underlying5
            rwa [hss] at this
          by_cases htr : a2 = true ∧ 0 < n
          · rw [if_pos htr]
            obtain ⟨rfl, hn0⟩ := htr
            obtain ⟨b, hb⟩ : ∃ b, s.data.toList.getD (n - 1) 0 = b := ⟨_, rfl⟩
            rw [hb]
            have hcl : ∀ W : World, (Lib.bytesWorld W 5 s).cell? ⟨W.heap.size, n - 1, none⟩ = some (.int .u8 (b.toNat : Int)) := fun W => by rw [bytes_cell W s (n - 1) (by omega), hb]
            have hfr : ∀ W : World, (Lib.bytesWorld W 5 s).frozen? ⟨W.heap.size, n - 1, none⟩ = false := fun W => bytes_frozen W s (n - 1) (by omega)
            have h255 : ((255 - b : UInt8).toNat : Int) = 255 - (b.toNat : Int) := by
              have := b.toNat_lt
              rw [UInt8.toNat_sub]
              simp
              omega
            have hbk : ∀ (W : World) c, (convert 48 9 (.slice (some ⟨W.heap.size, 0, none⟩) n c)).run Tryd.prog ((Lib.bytesWorld W 5 s).setCell ⟨W.heap.size, n - 1, none⟩ (.int .u8 (255 - (b.toNat : Int)))) = .ok (.string ⟨(s.data.toList.set (n - 1) (255 - b)).toArray⟩) ((Lib.bytesWorld W 5 s).setCell ⟨W.heap.size, n - 1, none⟩ (.int .u8 (255 - (b.toNat : Int)))) := fun W c => by
              have := back_torn W s c (n - 1) (255 - b) (by omega) (by rw [hss]; omega)
              rw [h255, hss] at this
              exact this
            obtain ⟨z, hz'⟩ : ∃ z : ByteArray, ⟨(s.data.toList.set (n - 1) (255 - b)).toArray⟩ = z := ⟨_, rfl⟩
            have hzs : z.size = n := by
              rw [← hz']
              show (s.data.toList.set (n - 1) (255 - b)).toArray.size = n
              simp
              exact hss
            rw [hz']
            simp only [hz'] at hbk
            have hsum : (9223372036854775807 < a0_0.size + z.size) = False := eq_false (by rw [hzs]; omega)
            have hb0 : (b.toNat : Int) ≤ 255 := by have := b.toNat_lt; omega
            have HS := Lib.hid hss
            have HZ := Lib.hid hzs
            have HX := Lib.hid hz'
            have HY := Lib.hid hb
            have w1 : wrap64 ((n : Int) - 1) = (n : Int) - 1 := by unfold wrap64; omega
            have w2 : IntKind.i64.wrap ((n : Int) - 1) = (n : Int) - 1 := IntWalk.i64_in _ (by omega)
            have w3 : ((n : Int) - 1).toNat = n - 1 := by omega
            have hn1 : (n : Int) - 1 < n := by omega
            have hn2 : 0 ≤ (n : Int) - 1 := by omega
            clear key hss hsub hzs hz' hb h255
            go_enter Tryd.func16, Tryd.ntmps16
            go_wp2_with (first | (go_at_call 14; refine hc.mono ?_; rintro e w' ⟨rfl, hb⟩; have hz : w.heap.size < w'.heap.size := Nat.lt_of_lt_of_le (by simp) hb.size; have x0 : w'.cell? ⟨w.heap.size, 0, none⟩ = some (.string a0_0) := (hb.cell (p := ⟨w.heap.size, 0, none⟩) (by simp)).trans (by simp); have x1 : w'.cell? ⟨w.heap.size, 1, none⟩ = some (.string a0_1) := (hb.cell (p := ⟨w.heap.size, 1, none⟩) (by simp)).trans (by simp); have HB := Lib.hid hb; clear hb) | (go_at_call 43; (refine (hd _).mono ?_; rintro e w'' ⟨rfl, ⟨⟨q, rfl⟩⟩⟩; have y0 := KEY.out (w'.drewN q) hz x0; have y1 : (Lib.bytesWorld (w'.drewN q) 5 s).cell? ⟨w'.heap.size, n - 1, none⟩ = some (.int .u8 (b.toNat : Int)) := hcl (w'.drewN q); have y2 : (Lib.bytesWorld (w'.drewN q) 5 s).frozen? ⟨w'.heap.size, n - 1, none⟩ = false := hfr (w'.drewN q); have y3 : (convert 48 9 (.slice (some ⟨w'.heap.size, 0, none⟩) n (grownCap (w'.drewN q) n 0 5))).run Tryd.prog ((Lib.bytesWorld (w'.drewN q) 5 s).setCell ⟨w'.heap.size, n - 1, none⟩ (.int .u8 (255 - (b.toNat : Int)))) = .ok (.string z) ((Lib.bytesWorld (w'.drewN q) 5 s).setCell ⟨w'.heap.size, n - 1, none⟩ (.int .u8 (255 - (b.toNat : Int)))) := hbk (w'.drewN q) _; have hne : ¬ w.heap.size = w'.heap.size := (by omega); have hne' : ¬ w'.heap.size = w.heap.size := (by omega))))
            go_ret2
            exact ⟨rfl, ((pw_below_drewN ((below_alloc (Below.refl _ _) _).trans (HB.out.mono (by simp))) _).trans ((below_bytesWorld _ 5 s).mono (Nat.le_of_lt hz))).setCell (Nat.le_of_lt hz) _⟩
          · rw [if_neg htr]
            have HS := Lib.hid hss
            have hsum : (9223372036854775807 < a0_0.size + s.size) = False := eq_false (by rw [hss]; omega)
            have hbk : ∀ (W : World) c, (convert 48 9 (.slice (some ⟨W.heap.size, 0, none⟩) n c)).run Tryd.prog (Lib.bytesWorld W 5 s) = .ok (.string s) (Lib.bytesWorld W 5 s) := fun W c => by
              have := back_bytes W s c (by rw [hss]; omega)
              rwa [hss] at this
            clear key hss hsub
            have h9 : a2 = false ∨ n = 0 := by
              cases a2
              · exact .inl rfl
              · exact .inr (by simpa using htr)
            clear htr
            have h10 : a2 = false ∨ decide (0 < (n : Int)) = false := by
              rcases h9 with h | h
              · exact .inl h
              · exact .inr (by simp [h])
            clear h9
            have h11 : a2 = false ∨ a2 = true ∧ decide (0 < (n : Int)) = false ∧ decide (0 < n) = false := by
              cases a2
              · exact .inl rfl
              · rcases h10 with h | h
                · cases h
                · exact .inr ⟨rfl, h, by simpa using h⟩
            clear h10
            rcases h11 with rfl | ⟨rfl, h12, h13⟩
            all_goals
              go_enter Tryd.func16, Tryd.ntmps16
              go_wp2_with (first | (go_at_call 14; refine hc.mono ?_; rintro e w' ⟨rfl, hb⟩; have hz : w.heap.size < w'.heap.size := Nat.lt_of_lt_of_le (by simp) hb.size; have x0 : w'.cell? ⟨w.heap.size, 0, none⟩ = some (.string a0_0) := (hb.cell (p := ⟨w.heap.size, 0, none⟩) (by simp)).trans (by simp); have x1 : w'.cell? ⟨w.heap.size, 1, none⟩ = some (.string a0_1) := (hb.cell (p := ⟨w.heap.size, 1, none⟩) (by simp)).trans (by simp); have HB := Lib.hid hb; clear hb) | (go_at_call 43; (refine (hd _).mono ?_; rintro e w'' ⟨rfl, ⟨⟨q, rfl⟩⟩⟩; have y0 := KEY.out (w'.drewN q) hz x0; have y3 : (convert 48 9 (.slice (some ⟨w'.heap.size, 0, none⟩) n (grownCap (w'.drewN q) n 0 5))).run Tryd.prog (Lib.bytesWorld (w'.drewN q) 5 s) = .ok (.string s) (Lib.bytesWorld (w'.drewN q) 5 s) := hbk (w'.drewN q) _)))
              go_ret2
              exact ⟨rfl, (pw_below_drewN ((below_alloc (Below.refl _ _) _).trans (HB.out.mono (by simp))) _).trans ((below_bytesWorld _ 5 s).mono (Nat.le_of_lt hz))⟩
        · rw [if_neg hsz] at h; cases h
      · rw [if_neg hk] at h; cases h


end Go.Proofs.YtokmidpeeejahaaDoor.G
