/- Texts of this seat, joined: what the claim's last text rests on. Some began as words of the kit's print; what is not needed is left out. -/
import Derived.Test.YtneaeaoemhghdaaDoorProg
import Derived.Below
import Derived.Deep.Draws
import Derived.Deep.AppendLies
import Derived.Maps.AppendAt
import Derived.OwnWalk
import Derived.Laws.BytesArg
import Derived.Laws.MakeOwn
import Derived.Laws.OwnMore
import Derived.Deep.OwnRows
import Derived.Tactics
import Derived.Lib.ConvBytes
import Derived.Laws.Slices
import Derived.WalkKit
import Derived.KernelRfl
import Derived.RowKit3
import Derived.Deep.LoopGhost
import Derived.Deep.QuietTactic
import Derived.BigQuiet
import Derived.WideLaws
import Derived.Deep.DeepCutAuto
import Derived.Deep.CutBlock
import Derived.Deep.RegionHeld3
import Derived.Laws.Rows
import Derived.Lib.AppendStr
import Derived.ArgAppend
import Derived.Laws.IdiomCopy
import Derived.OrdersHeld
import Derived.Laws.BitsLemmas
import Derived.RowKit
import Derived.IntWalk
import Derived.Lib.ItoaNum
import Derived.Lib.Hide
import Derived.Lib.SmallJoins
import Derived.Lib.AppendIntMem
import Derived.Lib.LaidTab
import Derived.Lib.SliceRun
import Derived.Test.YtneaeaoemhghdaaDoorBm1
import Derived.Shelf.Strings.Builder1
import Derived.Test.YtneaeaoemhghdaaDoorBm0
import Derived.Test.YtneaeaoemhghdaaDoorBm2
-- Written by a program of this session (wip/pd.py), which calls the kit's print; externals' contracts by hand.
namespace Go.Proofs.YtneaeaoemhghdaaDoor.G
open Go.Proofs.YtneaeaoemhghdaaDoorQ
open Go.RowKit Go.Proofs.YtneaeaoemhghdaaDoorW.PrintWords Go.Proofs.YtneaeaoemhghdaaDoorW.PrintLast Go.Proofs.YtneaeaoemhghdaaDoorW.PrintMore
attribute [local go_sem] max2_int min2_int max_two min_two max_three min_three max_four min_four   -- for this text's walks alone
set_option linter.unusedVariables false
set_option linter.unusedSimpArgs false



def errW : Option Int → Value
  | none => .nilIface
  | some c => .iface 0 (.int .i64 c)
theorem errW_none : errW none = .nilIface := rfl
theorem errW_some (c : Int) : errW (some c) = .iface 0 (.int .i64 c) := rfl

theorem info3 : (Tryd.prog.info? 3).map (fun i => (i.zero, i.size, i.bytes)) = some (some (.int .i64 0), 1, 8) := by kernel_rfl
theorem info9 : (Tryd.prog.info? 9).map (fun i => (i.zero, i.size, i.bytes)) = some (some (.string ⟨#[]⟩), 1, 16) := by kernel_rfl
theorem info62 : (Tryd.prog.info? 62).map (fun i => (i.zero, i.size, i.bytes)) = some (some (.agg #[(.int .i64 0), (.int .i64 0), (.int .i64 0), (.int .i64 0), (.int .i64 0)]), 5, 40) := by kernel_rfl
theorem info127 : (Tryd.prog.info? 127).map (fun i => (i.zero, i.size, i.bytes)) = some (some (.agg #[(.string ⟨#[]⟩), (.string ⟨#[]⟩)]), 2, 32) := by kernel_rfl
-- the values' own types
/-! #### struct type 115 -/
structure S115 where
  f0 : Int
  f1 : Int
  f2 : Int
  f3 : Int
  f4 : Int
def z115 : S115 := ⟨(0 : Int), (0 : Int), (0 : Int), (0 : Int), (0 : Int)⟩
def k115 : Kd S115 := Kd.iso (Kd.pair (Kd.int .i64) (Kd.pair (Kd.int .i64) (Kd.pair (Kd.int .i64) (Kd.pair (Kd.int .i64) (Kd.int .i64))))) (fun x : S115 => (x.f0, x.f1, x.f2, x.f3, x.f4))
theorem k115_open {w : World} {x : S115} {cs : List Value} (h : k115.K w x cs) : cs = [.int .i64 x.f0, .int .i64 x.f1, .int .i64 x.f2, .int .i64 x.f3, .int .i64 x.f4] := by
  obtain ⟨_, _, rfl, rfl, ⟨_, _, rfl, rfl, ⟨_, _, rfl, rfl, ⟨_, _, rfl, rfl, rfl⟩⟩⟩⟩ := h
  exact rfl
theorem k115_mk (w : World) (x : S115)  : k115.K w x [.int .i64 x.f0, .int .i64 x.f1, .int .i64 x.f2, .int .i64 x.f3, .int .i64 x.f4] := ⟨[.int .i64 x.f0], [.int .i64 x.f1, .int .i64 x.f2, .int .i64 x.f3, .int .i64 x.f4], rfl, rfl, ⟨[.int .i64 x.f1], [.int .i64 x.f2, .int .i64 x.f3, .int .i64 x.f4], rfl, rfl, ⟨[.int .i64 x.f2], [.int .i64 x.f3, .int .i64 x.f4], rfl, rfl, ⟨[.int .i64 x.f3], [.int .i64 x.f4], rfl, rfl, rfl⟩⟩⟩⟩
def rd_T115 (xs : List S115) (i : Int) : S115 := xs.getD i.toNat z115
theorem at_T115 {w : World} {A : Option Addr} {n : Nat} {xs : List S115} (h : Kd.C k115 w A n xs) (i : Int) (h0 : 0 ≤ i) (h1 : i < n) : ∃ ad , A = some ad ∧ w.cell? (ad.add (i.toNat * 5)) = some (.int .i64 (rd_T115 xs i).f0) ∧ w.cell? ⟨(ad.add (i.toNat * 5)).block, (ad.add (i.toNat * 5)).off + 1, none⟩ = some (.int .i64 (rd_T115 xs i).f1) ∧ w.cell? ⟨(ad.add (i.toNat * 5)).block, (ad.add (i.toNat * 5)).off + 2, none⟩ = some (.int .i64 (rd_T115 xs i).f2) ∧ w.cell? ⟨(ad.add (i.toNat * 5)).block, (ad.add (i.toNat * 5)).off + 3, none⟩ = some (.int .i64 (rd_T115 xs i).f3) ∧ w.cell? ⟨(ad.add (i.toNat * 5)).block, (ad.add (i.toNat * 5)).off + 4, none⟩ = some (.int .i64 (rd_T115 xs i).f4) := by
  obtain ⟨ad, c, e, _, hK, hc0⟩ := Kd.C_get h z115 i h0 h1
  have hc : ∀ j u, c[j]? = some u → w.cell? (ad.add (i.toNat * 5 + j)) = some u := hc0
  obtain rfl := k115_open hK
  exact ⟨ad, e, hc 0 _ rfl, by rw [← add_field _ _ 1 (by omega)]; exact hc 1 _ rfl, by rw [← add_field _ _ 2 (by omega)]; exact hc 2 _ rfl, by rw [← add_field _ _ 3 (by omega)]; exact hc 3 _ rfl, by rw [← add_field _ _ 4 (by omega)]; exact hc 4 _ rfl⟩

/-! #### struct type 62 -/
structure S62 where
  f0 : Int
  f1 : Int
  f2 : Int
  f3 : Int
  f4 : Int
def z62 : S62 := ⟨(0 : Int), (0 : Int), (0 : Int), (0 : Int), (0 : Int)⟩
def k62 : Kd S62 := Kd.iso (Kd.pair (Kd.int .i64) (Kd.pair (Kd.int .i64) (Kd.pair (Kd.int .i64) (Kd.pair (Kd.int .i64) (Kd.int .i64))))) (fun x : S62 => (x.f0, x.f1, x.f2, x.f3, x.f4))
theorem k62_open {w : World} {x : S62} {cs : List Value} (h : k62.K w x cs) : cs = [.int .i64 x.f0, .int .i64 x.f1, .int .i64 x.f2, .int .i64 x.f3, .int .i64 x.f4] := by
  obtain ⟨_, _, rfl, rfl, ⟨_, _, rfl, rfl, ⟨_, _, rfl, rfl, ⟨_, _, rfl, rfl, rfl⟩⟩⟩⟩ := h
  exact rfl
theorem k62_openM {w : World} {base : Nat} {ok : Nat → Prop} {x : S62} {cs : List Value} (h : k62.M w base ok x cs) : cs = [.int .i64 x.f0, .int .i64 x.f1, .int .i64 x.f2, .int .i64 x.f3, .int .i64 x.f4] := by
  obtain ⟨_, _, rfl, rfl, ⟨_, _, rfl, rfl, ⟨_, _, rfl, rfl, ⟨_, _, rfl, rfl, rfl⟩⟩⟩⟩ := h
  exact rfl
theorem k62_mkM (w : World) (base : Nat) (ok : Nat → Prop) (x : S62)  : k62.M w base ok x [.int .i64 x.f0, .int .i64 x.f1, .int .i64 x.f2, .int .i64 x.f3, .int .i64 x.f4] := ⟨[.int .i64 x.f0], [.int .i64 x.f1, .int .i64 x.f2, .int .i64 x.f3, .int .i64 x.f4], rfl, rfl, ⟨[.int .i64 x.f1], [.int .i64 x.f2, .int .i64 x.f3, .int .i64 x.f4], rfl, rfl, ⟨[.int .i64 x.f2], [.int .i64 x.f3, .int .i64 x.f4], rfl, rfl, ⟨[.int .i64 x.f3], [.int .i64 x.f4], rfl, rfl, rfl⟩⟩⟩⟩
def rd_T62 (xs : List S62) (i : Int) : S62 := xs.getD i.toNat z62
theorem at_T62 {w : World} {A : Option Addr} {n : Nat} {xs : List S62} (h : Kd.C k62 w A n xs) (i : Int) (h0 : 0 ≤ i) (h1 : i < n) : ∃ ad , A = some ad ∧ w.cell? (ad.add (i.toNat * 5)) = some (.int .i64 (rd_T62 xs i).f0) ∧ w.cell? ⟨(ad.add (i.toNat * 5)).block, (ad.add (i.toNat * 5)).off + 1, none⟩ = some (.int .i64 (rd_T62 xs i).f1) ∧ w.cell? ⟨(ad.add (i.toNat * 5)).block, (ad.add (i.toNat * 5)).off + 2, none⟩ = some (.int .i64 (rd_T62 xs i).f2) ∧ w.cell? ⟨(ad.add (i.toNat * 5)).block, (ad.add (i.toNat * 5)).off + 3, none⟩ = some (.int .i64 (rd_T62 xs i).f3) ∧ w.cell? ⟨(ad.add (i.toNat * 5)).block, (ad.add (i.toNat * 5)).off + 4, none⟩ = some (.int .i64 (rd_T62 xs i).f4) := by
  obtain ⟨ad, c, e, _, hK, hc0⟩ := Kd.C_get h z62 i h0 h1
  have hc : ∀ j u, c[j]? = some u → w.cell? (ad.add (i.toNat * 5 + j)) = some u := hc0
  obtain rfl := k62_open hK
  exact ⟨ad, e, hc 0 _ rfl, by rw [← add_field _ _ 1 (by omega)]; exact hc 1 _ rfl, by rw [← add_field _ _ 2 (by omega)]; exact hc 2 _ rfl, by rw [← add_field _ _ 3 (by omega)]; exact hc 3 _ rfl, by rw [← add_field _ _ 4 (by omega)]; exact hc 4 _ rfl⟩

/-! #### struct type 127 -/
structure S127 where
  f0 : ByteArray
  f1 : ByteArray
def z127 : S127 := ⟨(⟨#[]⟩ : ByteArray), (⟨#[]⟩ : ByteArray)⟩
def k127 : Kd S127 := Kd.iso (Kd.pair Kd.string Kd.string) (fun x : S127 => (x.f0, x.f1))
theorem k127_mkM (w : World) (base : Nat) (ok : Nat → Prop) (x : S127)  : k127.M w base ok x [.string x.f0, .string x.f1] := ⟨[.string x.f0], [.string x.f1], rfl, rfl, rfl⟩
/-! #### struct type 26 -/
structure S26 where
  f0 : Int
  f1 : Int
  f2 : (List S62)
  f3 : Int
/-! #### struct type 52 -/
structure S52 where
  f0 : ByteArray
  f1 : ByteArray
  f2 : Int
/-! #### struct type 54 -/
structure S54 where
  f0 : S26
  f1 : S52
/-- A string's '+', and a cut of a string: names that the walk's simp doesn't look behind. -/
def cat (a b : ByteArray) : ByteArray := a ++ b
def subs (s : ByteArray) (i j : Nat) : ByteArray := s.extract i j
section
variable {P : Program} (w : World)
theorem run_add_cat (a b : ByteArray) : (Op.stringOp .add a b).run P w =
    if a.size + b.size > 9223372036854775807 then .halt (.unsupported (.resourceLimit "string concatenation: a sum of the lengths that is no int")) w else .ok (.string (cat a b)) w := run_string_add_if w a b
theorem run_slice_cat (t : TypeId) (s : ByteArray) (k k' : IntKind) (i j : Int) (h : P.underlying t = some .string) (h0 : 0 ≤ i) (h1 : i ≤ j) (h2 : j ≤ s.size) :
    (Instr.slice t (.string s) (some (.int k i)) (some (.int k' j)) none).run P w = .ok (.string (subs s i.toNat j.toNat)) w := run_slice_string w t s k k' i j h h0 h1 h2
theorem run_slice_cat_h (t : TypeId) (s : ByteArray) (ht : P.underlying t = some .string) (kh : IntKind) (h : Int) (h0 : 0 ≤ h) (h2 : h ≤ s.size) :
    (Instr.slice t (.string s) none (some (.int kh h)) none).run P w = .ok (.string (subs s 0 h.toNat)) w := by simpa [subs] using run_slice_string_h w t s ht kh h h0 h2
theorem run_slice_cat_l (t : TypeId) (s : ByteArray) (ht : P.underlying t = some .string) (kl : IntKind) (l : Int) (h0 : 0 ≤ l) (h1 : l ≤ s.size) :
    (Instr.slice t (.string s) (some (.int kl l)) none none).run P w = .ok (.string (subs s l.toNat s.size)) w := by simpa [subs] using run_slice_string_l w t s ht kl l h0 h1
theorem run_slice_cat_all (t : TypeId) (s : ByteArray) (ht : P.underlying t = some .string) :
    (Instr.slice t (.string s) none none none).run P w = .ok (.string (subs s 0 s.size)) w := by simpa [subs] using run_slice_string_all w t s ht
end
/-- What calls of the library lean on: 'bytealg.MaxLen' holds some number, the table of powers of ten is as its text lays it. -/
def Gl (w : World) : Prop := (∃ m, w.cell? ⟨3, 0, none⟩ = some (.int .i64 m)) ∧ Lib.TabIs Tryd.prog w "internal/strconv.uint64pow10" .u64 Lib.pow10Tab
theorem gPow : Tryd.prog.globalNamed "internal/strconv.uint64pow10" = some 0 := by kernel_rfl
theorem Gl.below {w w' : World} (h : Gl w) (hb : Below w.heap.size w w') : Gl w' :=
  ⟨let ⟨m, hm⟩ := h.1; ⟨m, pw_cell_below hb hm⟩, Joins.tab_stays gPow h.2 hb (Nat.le_refl _)⟩
theorem below_bytesWorld (w : World) (e : TypeId) (s : ByteArray) : Below w.heap.size w (Lib.bytesWorld w e s) :=
  ⟨rfl, rfl, rfl, by rw [Lib.bytesWorld_size]; omega, fun j hj => Lib.bytesWorld_at_old w e s j hj⟩
end Go.Proofs.YtneaeaoemhghdaaDoor.G

-- Written by a program of this session (wip/pd.py), which calls the kit's print; externals' contracts by hand.
namespace Go.Proofs.YtneaeaoemhghdaaDoor.G
open Go.Proofs.YtneaeaoemhghdaaDoorQ
open Go.RowKit Go.Proofs.YtneaeaoemhghdaaDoorW.PrintWords Go.Proofs.YtneaeaoemhghdaaDoorW.PrintLast Go.Proofs.YtneaeaoemhghdaaDoorW.PrintMore
attribute [local go_sem] max2_int min2_int max_two min_two max_three min_three max_four min_four   -- for this text's walks alone
set_option linter.unusedVariables false
set_option linter.unusedSimpArgs false

/-! ### laws_szCarpetS: function 70 -/
def laws_szCarpetS.f (l0 : List (S115)) (a1 : Int) : Option (Int) := if (wrap64 (a1 - (l0.length : Int))) < 0 then (some (-1)) else (some (wrap64 (a1 - (l0.length : Int))))
set_option maxHeartbeats 8000000 in
set_option maxRecDepth 100000 in
theorem laws_szCarpetS.calls (A0 : Option Addr) (c0 : Nat) (l0 : List (S115)) (a1 : Int) (r : Int) (w : World) (hr0 : Kd.C k115 w A0 l0.length l0) (hc0 : l0.length ≤ c0) (h : laws_szCarpetS.f l0 a1 = some r) :
    Calls Tryd.prog 70 #[.slice A0 l0.length c0, .int .i64 a1] w fun e w' => e = .returned (.int .i64 r) ∧ Drawn0 w w' := by
  have HR0 := Aside0.mk hr0
  have HC0 := Aside0.mk hc0
  clear hr0 hc0
  unfold laws_szCarpetS.f at h
  have H := h
  clear h
  by_cases c3 : (wrap64 (a1 - (l0.length : Int))) < 0
  · rw [if_pos c3] at H
    have c3b0 := decide_eq_true c3
    clear c3
    obtain rfl := Option.some.inj H
    go_enter Tryd.func70, Tryd.ntmps70
    go_wp2
    go_ret
    exact ⟨zz4, zz8⟩
  rw [if_neg c3] at H
  have c3b0 := decide_eq_false c3
  clear c3
  obtain rfl := Option.some.inj H
  go_enter Tryd.func70, Tryd.ntmps70
  go_wp2
  go_ret
  exact ⟨zz4, zz8⟩


/-! ### laws_szShop: function 44 -/
def laws_szShop.f (a0_0 : Int) (a0_1 : Int) (l0_2 : List (S115)) (a0_3 : Int) (a1 : Int) : Option (Int) := (laws_szCarpetS.f l0_2 a1).bind fun t102 => (if t102 < 0 then (some (-1)) else (some t102))
set_option maxHeartbeats 8000000 in
set_option maxRecDepth 100000 in
theorem laws_szShop.calls (a0_0 : Int) (a0_1 : Int) (A0_2 : Option Addr) (c0_2 : Nat) (l0_2 : List (S115)) (a0_3 : Int) (a1 : Int) (r : Int) (w : World) (hr0_2 : Kd.C k115 w A0_2 l0_2.length l0_2) (hc0_2 : l0_2.length ≤ c0_2) (h : laws_szShop.f a0_0 a0_1 l0_2 a0_3 a1 = some r) :
    Calls Tryd.prog 44 #[.agg #[.int .i64 a0_0, .int .i64 a0_1, .slice A0_2 l0_2.length c0_2, .int .i64 a0_3], .int .i64 a1] w fun e w' => e = .returned (.int .i64 r) ∧ Below w.heap.size w w' := by
  have hu45 := Tryd.underlying45
  have HR0_2 := Aside0.mk hr0_2
  have HC0_2 := Aside0.mk hc0_2
  clear hr0_2 hc0_2
  have HB := Aside0.mk (Below.refl w.heap.size w)
  have H : ((laws_szCarpetS.f l0_2 a1).bind fun t102 => (if t102 < 0 then (some (-1)) else (some t102))) = some r := h
  clear h
  replace H := Option.bind_eq_some_iff.mp H
  obtain ⟨t102, A30, H⟩ := H
  (try dsimp only at H)
  have A3 := Aside0.mk A30
  clear A30
  by_cases c4 : t102 < 0
  · rw [if_pos c4] at H
    have c4b0 := decide_eq_true c4
    clear c4
    obtain rfl := Option.some.inj H
    go_enter Tryd.func44, Tryd.ntmps44
    go_wp2_with (first | ((with_reducible refine gate_dst (N := 2) rfl ?_); refine qbox (N := 2) (cs := #[.int .i64 a0_0, .int .i64 a0_1, .slice A0_2 l0_2.length c0_2, .int .i64 a0_3]) (t := 45) ?_; intro gb101 hg w5 hbox hb; refine qs4 (below_step zz20 hb) (hbox) ((zz87 : w.heap.size ≤ gb101)) ((zz87 : w.heap.size ≤ gb101)) ?_; clear HB; intro HB BK101 GW101 GE101; clear hb hbox hg; obtain ⟨hcz6_0, hcz6_1, hcz6_2, hcz6_3, hfz6_0, hfz6_1, hfz6_2, hfz6_3⟩ := qc4 BK101.out) | ((with_reducible refine gate_callee (f := 70) rfl ?_); refine qcall 8 Tryd.func70 rfl #[.slice A0_2 l0_2.length c0_2, .int .i64 a1] ?_; (with_reducible refine (laws_szCarpetS.calls _ _ l0_2 a1 t102 _ ?side1 ?side2 A3.out).mono ?_); (case side1 => exact zz54); (case side2 => exact zz0); rintro e w' ⟨rfl, ⟨nd, rfl⟩⟩; refine ⟨_, rfl, ?_⟩))
    go_ret
    exact ⟨zz9, by repeat (first | (with_reducible first | exact HB.out | apply below_alloc | apply pw_below_drewN | apply below_drew1 | refine below_set ?_ GE101.out) | exact HB.out)⟩
  rw [if_neg c4] at H
  have c4b0 := decide_eq_false c4
  clear c4
  obtain rfl := Option.some.inj H
  go_enter Tryd.func44, Tryd.ntmps44
  go_wp2_with (first | ((with_reducible refine gate_dst (N := 2) rfl ?_); refine qbox (N := 2) (cs := #[.int .i64 a0_0, .int .i64 a0_1, .slice A0_2 l0_2.length c0_2, .int .i64 a0_3]) (t := 45) ?_; intro gb101 hg w7 hbox hb; refine qs4 (below_step zz20 hb) (hbox) ((zz87 : w.heap.size ≤ gb101)) ((zz87 : w.heap.size ≤ gb101)) ?_; clear HB; intro HB BK101 GW101 GE101; clear hb hbox hg; obtain ⟨hcz8_0, hcz8_1, hcz8_2, hcz8_3, hfz8_0, hfz8_1, hfz8_2, hfz8_3⟩ := qc4 BK101.out) | ((with_reducible refine gate_callee (f := 70) rfl ?_); refine qcall 8 Tryd.func70 rfl #[.slice A0_2 l0_2.length c0_2, .int .i64 a1] ?_; (with_reducible refine (laws_szCarpetS.calls _ _ l0_2 a1 t102 _ ?side1 ?side2 A3.out).mono ?_); (case side1 => exact zz54); (case side2 => exact zz0); rintro e w' ⟨rfl, ⟨nd, rfl⟩⟩; refine ⟨_, rfl, ?_⟩))
  go_ret
  exact ⟨zz9, by repeat (first | (with_reducible first | exact HB.out | apply below_alloc | apply pw_below_drewN | apply below_drew1 | refine below_set ?_ GE101.out) | exact HB.out)⟩


/-! ### laws_szLog: function 45 -/
def laws_szLog.f (a0_0 : ByteArray) (a0_1 : ByteArray) (a0_2 : Int) (a1 : Int) : Option (Int) := if (wrap64 (a1 - (a0_0.size : Int))) < 0 then (some (-1)) else (if (wrap64 ((wrap64 (a1 - (a0_0.size : Int))) - (a0_1.size : Int))) < 0 then (some (-1)) else (some (wrap64 ((wrap64 (a1 - (a0_0.size : Int))) - (a0_1.size : Int)))))
set_option maxHeartbeats 8000000 in
set_option maxRecDepth 100000 in
theorem laws_szLog.calls (a0_0 : ByteArray) (a0_1 : ByteArray) (a0_2 : Int) (a1 : Int) (r : Int) (w : World) (h : laws_szLog.f a0_0 a0_1 a0_2 a1 = some r) :
    Calls Tryd.prog 45 #[.agg #[.string a0_0, .string a0_1, .int .i64 a0_2], .int .i64 a1] w fun e w' => e = .returned (.int .i64 r) ∧ Below w.heap.size w w' := by
  have hu47 := Tryd.underlying47
  have HB := Aside0.mk (Below.refl w.heap.size w)
  unfold laws_szLog.f at h
  have H := h
  clear h
  by_cases c3 : (wrap64 (a1 - (a0_0.size : Int))) < 0
  · rw [if_pos c3] at H
    have c3b0 := decide_eq_true c3
    clear c3
    obtain rfl := Option.some.inj H
    go_enter Tryd.func45, Tryd.ntmps45
    go_wp2_with (first | ((with_reducible refine gate_dst (N := 2) rfl ?_); refine qbox (N := 2) (cs := #[.string a0_0, .string a0_1, .int .i64 a0_2]) (t := 47) ?_; intro gb103 hg w4 hbox hb; refine qs4 (below_step zz20 hb) (hbox) ((zz87 : w.heap.size ≤ gb103)) ((zz87 : w.heap.size ≤ gb103)) ?_; clear HB; intro HB BK103 GW103 GE103; clear hb hbox hg; obtain ⟨hcz5_0, hcz5_1, hcz5_2, hfz5_0, hfz5_1, hfz5_2⟩ := qc3 BK103.out))
    go_ret
    exact ⟨zz9, zz45⟩
  rw [if_neg c3] at H
  have c3b0 := decide_eq_false c3
  clear c3
  by_cases c6 : (wrap64 ((wrap64 (a1 - (a0_0.size : Int))) - (a0_1.size : Int))) < 0
  · rw [if_pos c6] at H
    have c6b0 := decide_eq_true c6
    clear c6
    obtain rfl := Option.some.inj H
    go_enter Tryd.func45, Tryd.ntmps45
    go_wp2_with (first | ((with_reducible refine gate_dst (N := 2) rfl ?_); refine qbox (N := 2) (cs := #[.string a0_0, .string a0_1, .int .i64 a0_2]) (t := 47) ?_; intro gb103 hg w7 hbox hb; refine qs4 (below_step zz20 hb) (hbox) ((zz87 : w.heap.size ≤ gb103)) ((zz87 : w.heap.size ≤ gb103)) ?_; clear HB; intro HB BK103 GW103 GE103; clear hb hbox hg; obtain ⟨hcz8_0, hcz8_1, hcz8_2, hfz8_0, hfz8_1, hfz8_2⟩ := qc3 BK103.out))
    go_ret
    exact ⟨zz9, zz45⟩
  rw [if_neg c6] at H
  have c6b0 := decide_eq_false c6
  clear c6
  obtain rfl := Option.some.inj H
  go_enter Tryd.func45, Tryd.ntmps45
  go_wp2_with (first | ((with_reducible refine gate_dst (N := 2) rfl ?_); refine qbox (N := 2) (cs := #[.string a0_0, .string a0_1, .int .i64 a0_2]) (t := 47) ?_; intro gb103 hg w9 hbox hb; refine qs4 (below_step zz20 hb) (hbox) ((zz87 : w.heap.size ≤ gb103)) ((zz87 : w.heap.size ≤ gb103)) ?_; clear HB; intro HB BK103 GW103 GE103; clear hb hbox hg; obtain ⟨hcz10_0, hcz10_1, hcz10_2, hfz10_0, hfz10_1, hfz10_2⟩ := qc3 BK103.out))
  go_ret
  exact ⟨zz9, zz45⟩


/-! ### laws_szConsole: function 24 -/
def laws_szConsole.f (a0_0 : Int) (a0_1 : Int) (l0_2 : List (S115)) (a0_3 : Int) (a0_4 : ByteArray) (a0_5 : ByteArray) (a0_6 : Int) (a1 : Int) : Option (Int) := (laws_szShop.f a0_0 a0_1 l0_2 a0_3 a1).bind fun t105 => (if t105 < 0 then (some (-1)) else ((laws_szLog.f a0_4 a0_5 a0_6 t105).bind fun t106 => (if t106 < 0 then (some (-1)) else (some t106))))
set_option maxHeartbeats 8000000 in
set_option maxRecDepth 100000 in
theorem laws_szConsole.calls (a0_0 : Int) (a0_1 : Int) (A0_2 : Option Addr) (c0_2 : Nat) (l0_2 : List (S115)) (a0_3 : Int) (a0_4 : ByteArray) (a0_5 : ByteArray) (a0_6 : Int) (a1 : Int) (r : Int) (w : World) (hr0_2 : Kd.C k115 w A0_2 l0_2.length l0_2) (hc0_2 : l0_2.length ≤ c0_2) (h : laws_szConsole.f a0_0 a0_1 l0_2 a0_3 a0_4 a0_5 a0_6 a1 = some r) :
    Calls Tryd.prog 24 #[.agg #[.int .i64 a0_0, .int .i64 a0_1, .slice A0_2 l0_2.length c0_2, .int .i64 a0_3, .string a0_4, .string a0_5, .int .i64 a0_6], .int .i64 a1] w fun e w' => e = .returned (.int .i64 r) ∧ Below w.heap.size w w' := by
  have hu49 := Tryd.underlying49
  have hu45 := Tryd.underlying45
  have hu47 := Tryd.underlying47
  have HR0_2 := Aside0.mk hr0_2
  have HC0_2 := Aside0.mk hc0_2
  clear hr0_2 hc0_2
  have HB := Aside0.mk (Below.refl w.heap.size w)
  unfold laws_szConsole.f at h
  have H := h
  clear h
  replace H := Option.bind_eq_some_iff.mp H
  obtain ⟨t105, A30, H⟩ := H
  (try dsimp only at H)
  have A3 := Aside0.mk A30
  clear A30
  by_cases c4 : t105 < 0
  · rw [if_pos c4] at H
    have c4b0 := decide_eq_true c4
    clear c4
    obtain rfl := Option.some.inj H
    go_enter Tryd.func24, Tryd.ntmps24
    go_wp2_with (first | ((with_reducible refine gate_dst (N := 2) rfl ?_); refine qbox (N := 2) (cs := #[.int .i64 a0_0, .int .i64 a0_1, .slice A0_2 l0_2.length c0_2, .int .i64 a0_3, .string a0_4, .string a0_5, .int .i64 a0_6]) (t := 49) ?_; intro gb104 hg w5 hbox hb; refine qs4 (below_step zz20 hb) (hbox) ((zz87 : w.heap.size ≤ gb104)) ((zz87 : w.heap.size ≤ gb104)) ?_; clear HB; intro HB BK104 GW104 GE104; clear hb hbox hg; obtain ⟨hcz6_0, hcz6_1, hcz6_2, hcz6_3, hcz6_4, hcz6_5, hcz6_6, hfz6_0, hfz6_1, hfz6_2, hfz6_3, hfz6_4, hfz6_5, hfz6_6⟩ := qc7 BK104.out) | ((with_reducible refine gate_callee (f := 44) rfl ?_); refine qcall 8 Tryd.func44 rfl #[.agg #[.int .i64 a0_0, .int .i64 a0_1, .slice A0_2 l0_2.length c0_2, .int .i64 a0_3], .int .i64 a1] ?_; (with_reducible refine (laws_szShop.calls a0_0 a0_1 _ _ l0_2 a0_3 a1 t105 _ ?side1 ?side2 A3.out).mono ?_); (case side1 => exact zz54); (case side2 => exact zz0); rintro e w7 ⟨rfl, hb⟩; refine ⟨_, rfl, ?_⟩; refine qs2 (blk_below (qb BK104.out) hb) (below_step zz38 hb) ?_; clear BK104 HB; intro BK104 HB; (try clear hb); (try clear hb2); (try clear hk); (try clear hi)))
    go_ret
    exact ⟨zz9, zz38⟩
  rw [if_neg c4] at H
  have c4b0 := decide_eq_false c4
  clear c4
  replace H := Option.bind_eq_some_iff.mp H
  obtain ⟨t106, A80, H⟩ := H
  (try dsimp only at H)
  have A8 := Aside0.mk A80
  clear A80
  by_cases c9 : t106 < 0
  · rw [if_pos c9] at H
    have c9b0 := decide_eq_true c9
    clear c9
    obtain rfl := Option.some.inj H
    go_enter Tryd.func24, Tryd.ntmps24
    go_wp2_with (first | ((with_reducible refine gate_dst (N := 2) rfl ?_); refine qbox (N := 2) (cs := #[.int .i64 a0_0, .int .i64 a0_1, .slice A0_2 l0_2.length c0_2, .int .i64 a0_3, .string a0_4, .string a0_5, .int .i64 a0_6]) (t := 49) ?_; intro gb104 hg w10 hbox hb; refine qs4 (below_step zz20 hb) (hbox) ((zz87 : w.heap.size ≤ gb104)) ((zz87 : w.heap.size ≤ gb104)) ?_; clear HB; intro HB BK104 GW104 GE104; clear hb hbox hg; obtain ⟨hcz11_0, hcz11_1, hcz11_2, hcz11_3, hcz11_4, hcz11_5, hcz11_6, hfz11_0, hfz11_1, hfz11_2, hfz11_3, hfz11_4, hfz11_5, hfz11_6⟩ := qc7 BK104.out) | ((with_reducible refine gate_callee (f := 44) rfl ?_); refine qcall 8 Tryd.func44 rfl #[.agg #[.int .i64 a0_0, .int .i64 a0_1, .slice A0_2 l0_2.length c0_2, .int .i64 a0_3], .int .i64 a1] ?_; (with_reducible refine (laws_szShop.calls a0_0 a0_1 _ _ l0_2 a0_3 a1 t105 _ ?side1 ?side2 A3.out).mono ?_); (case side1 => exact zz54); (case side2 => exact zz0); rintro e w12 ⟨rfl, hb⟩; refine ⟨_, rfl, ?_⟩; refine qs2 (blk_below (qb BK104.out) hb) (below_step zz38 hb) ?_; clear BK104 HB; intro BK104 HB; (try clear hb); (try clear hb2); (try clear hk); (try clear hi); obtain ⟨hcz13_0, hcz13_1, hcz13_2, hcz13_3, hcz13_4, hcz13_5, hcz13_6, hfz13_0, hfz13_1, hfz13_2, hfz13_3, hfz13_4, hfz13_5, hfz13_6⟩ := qc7 BK104.out) | ((with_reducible refine gate_callee (f := 45) rfl ?_); refine qcall 14 Tryd.func45 rfl #[.agg #[.string a0_4, .string a0_5, .int .i64 a0_6], .int .i64 t105] ?_; (with_reducible refine (laws_szLog.calls a0_4 a0_5 a0_6 t105 t106 _ A8.out).mono ?_); rintro e w14 ⟨rfl, hb⟩; refine ⟨_, rfl, ?_⟩; refine qs2 (blk_below (qb BK104.out) hb) (below_step zz38 hb) ?_; clear BK104 HB; intro BK104 HB; (try clear hb); (try clear hb2); (try clear hk); (try clear hi)))
    go_ret
    exact ⟨zz9, zz38⟩
  rw [if_neg c9] at H
  have c9b0 := decide_eq_false c9
  clear c9
  obtain rfl := Option.some.inj H
  go_enter Tryd.func24, Tryd.ntmps24
  go_wp2_with (first | ((with_reducible refine gate_dst (N := 2) rfl ?_); refine qbox (N := 2) (cs := #[.int .i64 a0_0, .int .i64 a0_1, .slice A0_2 l0_2.length c0_2, .int .i64 a0_3, .string a0_4, .string a0_5, .int .i64 a0_6]) (t := 49) ?_; intro gb104 hg w15 hbox hb; refine qs4 (below_step zz20 hb) (hbox) ((zz87 : w.heap.size ≤ gb104)) ((zz87 : w.heap.size ≤ gb104)) ?_; clear HB; intro HB BK104 GW104 GE104; clear hb hbox hg; obtain ⟨hcz16_0, hcz16_1, hcz16_2, hcz16_3, hcz16_4, hcz16_5, hcz16_6, hfz16_0, hfz16_1, hfz16_2, hfz16_3, hfz16_4, hfz16_5, hfz16_6⟩ := qc7 BK104.out) | ((with_reducible refine gate_callee (f := 44) rfl ?_); refine qcall 8 Tryd.func44 rfl #[.agg #[.int .i64 a0_0, .int .i64 a0_1, .slice A0_2 l0_2.length c0_2, .int .i64 a0_3], .int .i64 a1] ?_; (with_reducible refine (laws_szShop.calls a0_0 a0_1 _ _ l0_2 a0_3 a1 t105 _ ?side1 ?side2 A3.out).mono ?_); (case side1 => exact zz54); (case side2 => exact zz0); rintro e w17 ⟨rfl, hb⟩; refine ⟨_, rfl, ?_⟩; refine qs2 (blk_below (qb BK104.out) hb) (below_step zz38 hb) ?_; clear BK104 HB; intro BK104 HB; (try clear hb); (try clear hb2); (try clear hk); (try clear hi); obtain ⟨hcz18_0, hcz18_1, hcz18_2, hcz18_3, hcz18_4, hcz18_5, hcz18_6, hfz18_0, hfz18_1, hfz18_2, hfz18_3, hfz18_4, hfz18_5, hfz18_6⟩ := qc7 BK104.out) | ((with_reducible refine gate_callee (f := 45) rfl ?_); refine qcall 14 Tryd.func45 rfl #[.agg #[.string a0_4, .string a0_5, .int .i64 a0_6], .int .i64 t105] ?_; (with_reducible refine (laws_szLog.calls a0_4 a0_5 a0_6 t105 t106 _ A8.out).mono ?_); rintro e w19 ⟨rfl, hb⟩; refine ⟨_, rfl, ?_⟩; refine qs2 (blk_below (qb BK104.out) hb) (below_step zz38 hb) ?_; clear BK104 HB; intro BK104 HB; (try clear hb); (try clear hb2); (try clear hk); (try clear hi)))
  go_ret
  exact ⟨zz9, zz38⟩


/-! ### spec_l1In: function 42 -/
def spec_l1In.f (a0 : Int) (a1 : Int) (a2 : Int) : Option (Bool) := if a0 ≥ a1 then (some (decide (a0 ≤ a2))) else (some false)
set_option maxHeartbeats 8000000 in
set_option maxRecDepth 100000 in
theorem spec_l1In.calls (a0 : Int) (a1 : Int) (a2 : Int) (r : Bool) (w : World) (h : spec_l1In.f a0 a1 a2 = some r) :
    Calls Tryd.prog 42 #[.int .i64 a0, .int .i64 a1, .int .i64 a2] w fun e w' => e = .returned (.bool r) ∧ Drawn0 w w' := by
  have H : (if a0 ≥ a1 then (some (decide (a0 ≤ a2))) else (some false)) = some r := h
  clear h
  by_cases c4 : a0 ≥ a1
  · rw [if_pos c4] at H
    have c4b0 := decide_eq_true c4
    clear c4
    obtain rfl := Option.some.inj H
    go_enter Tryd.func42, Tryd.ntmps42
    go_wp2
    go_ret
    exact ⟨zz4, zz8⟩
  rw [if_neg c4] at H
  have c4b0 := decide_eq_false c4
  clear c4
  obtain rfl := Option.some.inj H
  go_enter Tryd.func42, Tryd.ntmps42
  go_wp2
  go_ret
  exact ⟨zz4, zz8⟩


/-! ### spec_l2Day: function 58 -/
def spec_l2Day.f (a0 : Int) : Option (Bool) := (spec_l1In.f a0 0 4000).bind fun t107 => (some t107)
set_option maxHeartbeats 8000000 in
set_option maxRecDepth 100000 in
theorem spec_l2Day.calls (a0 : Int) (r : Bool) (w : World) (h : spec_l2Day.f a0 = some r) :
    Calls Tryd.prog 58 #[.int .i64 a0] w fun e w' => e = .returned (.bool r) ∧ Drawn0 w w' := by
  have H : ((spec_l1In.f a0 0 4000).bind fun t107 => (some t107)) = some r := h
  clear h
  replace H := Option.bind_eq_some_iff.mp H
  obtain ⟨t107, A20, H⟩ := H
  replace H : (some t107) = some r := H
  have A2 := Aside0.mk A20
  clear A20
  obtain rfl := Option.some.inj H
  go_enter Tryd.func58, Tryd.ntmps58
  go_wp2_with (first | ((with_reducible refine gate_callee (f := 42) rfl ?_); refine qcall 4 Tryd.func42 rfl #[.int .i64 a0, .int .i64 0, .int .i64 4000] ?_; (with_reducible refine (spec_l1In.calls a0 0 4000 t107 _ A2.out).mono ?_); rintro e w' ⟨rfl, ⟨nd, rfl⟩⟩; refine ⟨_, rfl, ?_⟩))
  go_ret
  exact ⟨zz4, zz8⟩


/-! ### spec_l25Carpet: function 59 -/
def spec_l25Carpet.j0 : Nat → Bool → Int → Int → List (S62) → Int → Int → Int → Int → Int → Int → Option (Bool)
  | 0, _, _, _, _, _, _, _, _, _, _ => none
  | k + 1, x30, x109000, x109001, x109002, x109003, x110000, x110001, x110002, x110003, x110004 => if x30 = true then (some false) else (if x110002 = 1 then ((spec_l1In.f x110003 1 x109001).bind fun t114 => (some t114)) else (if x110002 = 0 then (if x110003 = 0 then (some (x110001 == 0)) else (some false)) else (if x110003 = 0 then (some (x110001 == x110000)) else (some false))))
def spec_l25Carpet.f (k : Nat) (a0_0 : Int) (a0_1 : Int) (l0_2 : List (S62)) (a0_3 : Int) (a1_0 : Int) (a1_1 : Int) (a1_2 : Int) (a1_3 : Int) (a1_4 : Int) : Option (Bool) := (spec_l1In.f a1_0 1 500).bind fun t110 => (if t110 = true then ((spec_l1In.f a1_1 0 a1_0).bind fun t111 => (if t111 = true then ((spec_l1In.f a1_2 0 4).bind fun t112 => (if t112 = true then ((spec_l1In.f a1_4 0 a0_0).bind fun t113 => (spec_l25Carpet.j0 k (!t113) a0_0 a0_1 l0_2 a0_3 a1_0 a1_1 a1_2 a1_3 a1_4)) else (spec_l25Carpet.j0 k true a0_0 a0_1 l0_2 a0_3 a1_0 a1_1 a1_2 a1_3 a1_4))) else (spec_l25Carpet.j0 k true a0_0 a0_1 l0_2 a0_3 a1_0 a1_1 a1_2 a1_3 a1_4))) else (spec_l25Carpet.j0 k true a0_0 a0_1 l0_2 a0_3 a1_0 a1_1 a1_2 a1_3 a1_4))
set_option maxHeartbeats 8000000 in
set_option maxRecDepth 100000 in
theorem spec_l25Carpet.calls (k : Nat) (a0_0 : Int) (a0_1 : Int) (A0_2 : Option Addr) (c0_2 : Nat) (l0_2 : List (S62)) (a0_3 : Int) (a1_0 : Int) (a1_1 : Int) (a1_2 : Int) (a1_3 : Int) (a1_4 : Int) (r : Bool) (w : World) (hr0_2 : Kd.C k62 w A0_2 l0_2.length l0_2) (hc0_2 : l0_2.length ≤ c0_2) (h : spec_l25Carpet.f k a0_0 a0_1 l0_2 a0_3 a1_0 a1_1 a1_2 a1_3 a1_4 = some r) :
    Calls Tryd.prog 59 #[.agg #[.int .i64 a0_0, .int .i64 a0_1, .slice A0_2 l0_2.length c0_2, .int .i64 a0_3], .agg #[.int .i64 a1_0, .int .i64 a1_1, .int .i64 a1_2, .int .i64 a1_3, .int .i64 a1_4]] w fun e w' => e = .returned (.bool r) ∧ Below w.heap.size w w' := by
  have hu26 := Tryd.underlying26
  have hu62 := Tryd.underlying62
  have HR0_2 := Aside0.mk hr0_2
  have HC0_2 := Aside0.mk hc0_2
  clear hr0_2 hc0_2
  have HB := Aside0.mk (Below.refl w.heap.size w)
  unfold spec_l25Carpet.f at h
  have H := h
  clear h
  have HC3 := Aside0.mk H
  clear H
  go_enter Tryd.func59, Tryd.ntmps59
  go_upto_region 1 with (first | ((with_reducible refine gate_dst (N := 2) rfl ?_); refine qbox (N := 2) (cs := #[.int .i64 a0_0, .int .i64 a0_1, .slice A0_2 l0_2.length c0_2, .int .i64 a0_3]) (t := 26) ?_; intro gb108 hg w4 hbox hb; refine qs4 (below_step zz20 hb) (hbox) ((zz87 : w.heap.size ≤ gb108)) ((zz87 : w.heap.size ≤ gb108)) ?_; clear HB; intro HB BK108 GW108 GE108; clear hb hbox hg) | ((with_reducible refine gate_dst (N := 3) rfl ?_); refine qbox (N := 3) (cs := #[.int .i64 a1_0, .int .i64 a1_1, .int .i64 a1_2, .int .i64 a1_3, .int .i64 a1_4]) (t := 62) ?_; intro gb109 hg w5 hbox hb; refine qs7 (blk_below (qb BK108.out) hb) (below_step zz46 hb) (hbox) ((by rw [hg]; exact (below_size zz46) : w.heap.size ≤ gb109)) ((by rw [hg]; exact (below_size zz46) : w.heap.size ≤ gb109)) ((by rw [hg]; exact Nat.ne_of_lt (blk_lt (qb BK108.out)) : gb108 ≠ gb109)) ((by rw [hg]; exact Nat.ne_of_gt (blk_lt (qb BK108.out)) : gb109 ≠ gb108)) ?_; clear BK108 HB; intro BK108 HB BK109 GW109 GE109 NB108_109 NB109_108; clear hb hbox hg))
  (try simp only [Act.put, List.setIfInBounds_toArray, List.set_cons_zero, List.set_cons_succ])
  go_cut [30] (fun v30 wc => ∃ (kq : Nat) (x30_2 : Bool), v30 = .bool x30_2 ∧ Aside0 (spec_l25Carpet.j0 kq x30_2 a0_0 a0_1 l0_2 a0_3 a1_0 a1_1 a1_2 a1_3 a1_4 = some r) ∧ Aside0 (kq ≤ k) ∧ Aside0 (wc.heap[gb108]? = some (.cells #[.int .i64 a0_0, .int .i64 a0_1, (.slice A0_2 l0_2.length c0_2), .int .i64 a0_3] 26 (0, 0))) ∧ Aside0 (wc.heap[gb109]? = some (.cells #[.int .i64 a1_0, .int .i64 a1_1, .int .i64 a1_2, .int .i64 a1_3, .int .i64 a1_4] 62 (0, 0))) ∧ Aside0 (Below w.heap.size w wc))
  case first =>
    have H := HC3.out
    clear HC3
    replace H := Option.bind_eq_some_iff.mp H
    obtain ⟨t110, A60, H⟩ := H
    (try dsimp only at H)
    have A6 := Aside0.mk A60
    clear A60
    by_cases c7 : t110 = true
    rotate_left
    · replace c7 := Bool.eq_false_iff.mpr c7
      subst c7
      rw [if_neg (show ¬ (false = true) by decide)] at H
      have H' := Aside0.mk H
      clear H
      have hnb20 := NB109_108.out
      have hnc20 := NB108_109.out
      obtain ⟨hcz21_0, hcz21_1, hcz21_2, hcz21_3, hcz21_4, hfz21_0, hfz21_1, hfz21_2, hfz21_3, hfz21_4⟩ := qc5 BK109.out
      go_wp2_with (first | ((with_reducible refine gate_callee (f := 42) rfl ?_); refine qcall 7 Tryd.func42 rfl #[.int .i64 a1_0, .int .i64 1, .int .i64 500] ?_; (with_reducible refine (spec_l1In.calls a1_0 1 500 false _ A6.out).mono ?_); rintro e w' ⟨rfl, ⟨nd, rfl⟩⟩; refine ⟨_, rfl, ?_⟩))
      go_meet
      case rel => exact ⟨_, (true), zz4, H', ⟨zz2⟩, ⟨zz14⟩, ⟨zz15⟩, ⟨zz58⟩⟩
    subst c7
    rw [if_pos rfl] at H
    replace H := Option.bind_eq_some_iff.mp H
    obtain ⟨t111, A80, H⟩ := H
    (try dsimp only at H)
    have A8 := Aside0.mk A80
    clear A80
    by_cases c9 : t111 = true
    rotate_left
    · replace c9 := Bool.eq_false_iff.mpr c9
      subst c9
      rw [if_neg (show ¬ (false = true) by decide)] at H
      have H' := Aside0.mk H
      clear H
      have hnb18 := NB109_108.out
      have hnc18 := NB108_109.out
      obtain ⟨hcz19_0, hcz19_1, hcz19_2, hcz19_3, hcz19_4, hfz19_0, hfz19_1, hfz19_2, hfz19_3, hfz19_4⟩ := qc5 BK109.out
      go_wp2_with (first | ((with_reducible refine gate_callee (f := 42) rfl ?_); refine qcall 7 Tryd.func42 rfl #[.int .i64 a1_0, .int .i64 1, .int .i64 500] ?_; (with_reducible refine (spec_l1In.calls a1_0 1 500 true _ A6.out).mono ?_); rintro e w' ⟨rfl, ⟨nd, rfl⟩⟩; refine ⟨_, rfl, ?_⟩) | (go_at_call 42; (with_reducible refine (spec_l1In.calls a1_1 0 a1_0 false _ A8.out).mono ?_); rintro e w' ⟨rfl, ⟨nd, rfl⟩⟩))
      go_meet
      case rel => exact ⟨_, (true), zz4, H', ⟨zz2⟩, ⟨zz14⟩, ⟨zz15⟩, ⟨zz58⟩⟩
    subst c9
    rw [if_pos rfl] at H
    replace H := Option.bind_eq_some_iff.mp H
    obtain ⟨t112, A100, H⟩ := H
    (try dsimp only at H)
    have A10 := Aside0.mk A100
    clear A100
    by_cases c11 : t112 = true
    rotate_left
    · replace c11 := Bool.eq_false_iff.mpr c11
      subst c11
      rw [if_neg (show ¬ (false = true) by decide)] at H
      have H' := Aside0.mk H
      clear H
      have hnb16 := NB109_108.out
      have hnc16 := NB108_109.out
      obtain ⟨hcz17_0, hcz17_1, hcz17_2, hcz17_3, hcz17_4, hfz17_0, hfz17_1, hfz17_2, hfz17_3, hfz17_4⟩ := qc5 BK109.out
      go_wp2_with (first | ((with_reducible refine gate_callee (f := 42) rfl ?_); refine qcall 7 Tryd.func42 rfl #[.int .i64 a1_0, .int .i64 1, .int .i64 500] ?_; (with_reducible refine (spec_l1In.calls a1_0 1 500 true _ A6.out).mono ?_); rintro e w' ⟨rfl, ⟨nd, rfl⟩⟩; refine ⟨_, rfl, ?_⟩) | (go_at_call 42; (with_reducible refine (spec_l1In.calls a1_1 0 a1_0 true _ A8.out).mono ?_); rintro e w' ⟨rfl, ⟨nd, rfl⟩⟩) | (go_at_call 42; (with_reducible refine (spec_l1In.calls a1_2 0 4 false _ A10.out).mono ?_); rintro e w' ⟨rfl, ⟨nd, rfl⟩⟩))
      go_meet
      case rel => exact ⟨_, (true), zz4, H', ⟨zz2⟩, ⟨zz14⟩, ⟨zz15⟩, ⟨zz58⟩⟩
    subst c11
    rw [if_pos rfl] at H
    replace H := Option.bind_eq_some_iff.mp H
    obtain ⟨t113, A120, H⟩ := H
    (try dsimp only at H)
    have A12 := Aside0.mk A120
    clear A120
    have H' := Aside0.mk H
    clear H
    have hnb13 := NB109_108.out
    have hnc13 := NB108_109.out
    obtain ⟨hcz14_0, hcz14_1, hcz14_2, hcz14_3, hcz14_4, hfz14_0, hfz14_1, hfz14_2, hfz14_3, hfz14_4⟩ := qc5 BK109.out
    go_wp2_with (first | ((with_reducible refine gate_callee (f := 42) rfl ?_); refine qcall 7 Tryd.func42 rfl #[.int .i64 a1_0, .int .i64 1, .int .i64 500] ?_; (with_reducible refine (spec_l1In.calls a1_0 1 500 true _ A6.out).mono ?_); rintro e w' ⟨rfl, ⟨nd, rfl⟩⟩; refine ⟨_, rfl, ?_⟩) | (go_at_call 42; (with_reducible refine (spec_l1In.calls a1_1 0 a1_0 true _ A8.out).mono ?_); rintro e w' ⟨rfl, ⟨nd, rfl⟩⟩) | (go_at_call 42; (with_reducible refine (spec_l1In.calls a1_2 0 4 true _ A10.out).mono ?_); rintro e w' ⟨rfl, ⟨nd, rfl⟩⟩; obtain ⟨hcz15_0, hcz15_1, hcz15_2, hcz15_3, hfz15_0, hfz15_1, hfz15_2, hfz15_3⟩ := qc4 BK108.out) | (go_at_call 42; (with_reducible refine (spec_l1In.calls a1_4 0 a0_0 t113 _ A12.out).mono ?_); rintro e w' ⟨rfl, ⟨nd, rfl⟩⟩))
    go_meet
    case rel => exact ⟨_, (!t113), zz4, H', ⟨zz2⟩, ⟨zz14⟩, ⟨zz15⟩, ⟨zz58⟩⟩
  case rest =>
    clear HC3
    try clear c1
    try clear c2
    try clear p2
    try clear c4
    try clear c5
    try clear c7
    try clear c9
    try clear c11
    try clear c13
    try clear c16
    try clear c18
    try clear c20
    try clear hcz14_0
    try clear hcz14_1
    try clear hcz14_2
    try clear hcz14_3
    try clear hcz14_4
    try clear hcz15_0
    try clear hcz15_1
    try clear hcz15_2
    try clear hcz15_3
    try clear hcz17_0
    try clear hcz17_1
    try clear hcz17_2
    try clear hcz17_3
    try clear hcz17_4
    try clear hcz19_0
    try clear hcz19_1
    try clear hcz19_2
    try clear hcz19_3
    try clear hcz19_4
    try clear hcz21_0
    try clear hcz21_1
    try clear hcz21_2
    try clear hcz21_3
    try clear hcz21_4
    try clear hfz14_0
    try clear hfz14_1
    try clear hfz14_2
    try clear hfz14_3
    try clear hfz14_4
    try clear hfz15_0
    try clear hfz15_1
    try clear hfz15_2
    try clear hfz15_3
    try clear hfz17_0
    try clear hfz17_1
    try clear hfz17_2
    try clear hfz17_3
    try clear hfz17_4
    try clear hfz19_0
    try clear hfz19_1
    try clear hfz19_2
    try clear hfz19_3
    try clear hfz19_4
    try clear hfz21_0
    try clear hfz21_1
    try clear hfz21_2
    try clear hfz21_3
    try clear hfz21_4
    obtain ⟨kq, x30_2, rfl, HA, HJ2, BK108, BK109, HB⟩ := hcut
    cases kq with
    | zero => exact absurd HA.out (by simp [spec_l25Carpet.j0])
    | succ kj2 =>
      have H := HA.out
      clear HA
      simp only [spec_l25Carpet.j0] at H
      by_cases c22 : x30_2 = true
      · subst c22
        rw [if_pos rfl] at H
        obtain rfl := Option.some.inj H
        go_wp2
        go_ret
        exact ⟨zz9, zz58⟩
      replace c22 := Bool.eq_false_iff.mpr c22
      subst c22
      rw [if_neg (show ¬ (false = true) by decide)] at H
      by_cases c23 : a1_2 = 1
      · rw [if_pos c23] at H
        have c23b0 := beq_iff_eq.mpr c23
        have c23b1 := bne_eq_false_iff_eq.mpr c23
        clear c23
        replace H := Option.bind_eq_some_iff.mp H
        obtain ⟨t114, A240, H⟩ := H
        replace H : (some t114) = some r := H
        have A24 := Aside0.mk A240
        clear A240
        obtain rfl := Option.some.inj H
        have hnb25 := NB109_108.out
        have hnc25 := NB108_109.out
        obtain ⟨hcz26_0, hcz26_1, hcz26_2, hcz26_3, hcz26_4, hfz26_0, hfz26_1, hfz26_2, hfz26_3, hfz26_4⟩ := qc5 BK109.out
        obtain ⟨hcz27_0, hcz27_1, hcz27_2, hcz27_3, hfz27_0, hfz27_1, hfz27_2, hfz27_3⟩ := qc4 BK108.out
        go_wp2_with (first | ((with_reducible refine gate_callee (f := 42) rfl ?_); refine qcall 39 Tryd.func42 rfl #[.int .i64 a1_3, .int .i64 1, .int .i64 a0_1] ?_; (with_reducible refine (spec_l1In.calls a1_3 1 a0_1 t114 _ A24.out).mono ?_); rintro e w' ⟨rfl, ⟨nd, rfl⟩⟩; refine ⟨_, rfl, ?_⟩))
        go_ret
        exact ⟨zz9, zz58⟩
      rw [if_neg c23] at H
      have c23b0 := beq_eq_false_iff_ne.mpr c23
      have c23b1 := bne_iff_ne.mpr c23
      by_cases c28 : a1_2 = 0
      rotate_left
      · rw [if_neg c28] at H
        have c28b0 := beq_eq_false_iff_ne.mpr c28
        have c28b1 := bne_iff_ne.mpr c28
        by_cases c34 : a1_3 = 0
        rotate_left
        · rw [if_neg c34] at H
          have c34b0 := beq_eq_false_iff_ne.mpr c34
          have c34b1 := bne_iff_ne.mpr c34
          obtain rfl := Option.some.inj H
          have hnb37 := NB109_108.out
          have hnc37 := NB108_109.out
          obtain ⟨hcz38_0, hcz38_1, hcz38_2, hcz38_3, hcz38_4, hfz38_0, hfz38_1, hfz38_2, hfz38_3, hfz38_4⟩ := qc5 BK109.out
          go_wp2
          go_ret
          exact ⟨zz9, zz58⟩
        rw [if_pos c34] at H
        have c34b0 := beq_iff_eq.mpr c34
        have c34b1 := bne_eq_false_iff_eq.mpr c34
        clear c34
        obtain rfl := Option.some.inj H
        have hnb35 := NB109_108.out
        have hnc35 := NB108_109.out
        obtain ⟨hcz36_0, hcz36_1, hcz36_2, hcz36_3, hcz36_4, hfz36_0, hfz36_1, hfz36_2, hfz36_3, hfz36_4⟩ := qc5 BK109.out
        go_wp2
        go_ret
        exact ⟨zz9, zz58⟩
      rw [if_pos c28] at H
      have c28b0 := beq_iff_eq.mpr c28
      have c28b1 := bne_eq_false_iff_eq.mpr c28
      clear c28
      by_cases c29 : a1_3 = 0
      rotate_left
      · rw [if_neg c29] at H
        have c29b0 := beq_eq_false_iff_ne.mpr c29
        have c29b1 := bne_iff_ne.mpr c29
        obtain rfl := Option.some.inj H
        have hnb32 := NB109_108.out
        have hnc32 := NB108_109.out
        obtain ⟨hcz33_0, hcz33_1, hcz33_2, hcz33_3, hcz33_4, hfz33_0, hfz33_1, hfz33_2, hfz33_3, hfz33_4⟩ := qc5 BK109.out
        go_wp2
        go_ret
        exact ⟨zz9, zz58⟩
      rw [if_pos c29] at H
      have c29b0 := beq_iff_eq.mpr c29
      have c29b1 := bne_eq_false_iff_eq.mpr c29
      clear c29
      obtain rfl := Option.some.inj H
      have hnb30 := NB109_108.out
      have hnc30 := NB108_109.out
      obtain ⟨hcz31_0, hcz31_1, hcz31_2, hcz31_3, hcz31_4, hfz31_0, hfz31_1, hfz31_2, hfz31_3, hfz31_4⟩ := qc5 BK109.out
      go_wp2
      go_ret
      exact ⟨zz9, zz58⟩


end Go.Proofs.YtneaeaoemhghdaaDoor.G

-- Written by a program of this session (wip/pd.py), which calls the kit's print; externals' contracts by hand.
namespace Go.Proofs.YtneaeaoemhghdaaDoor.G
open Go.Proofs.YtneaeaoemhghdaaDoorQ
open Go.RowKit Go.Proofs.YtneaeaoemhghdaaDoorW.PrintWords Go.Proofs.YtneaeaoemhghdaaDoorW.PrintLast Go.Proofs.YtneaeaoemhghdaaDoorW.PrintMore
attribute [local go_sem] max2_int min2_int max_two min_two max_three min_three max_four min_four   -- for this text's walks alone
set_option linter.unusedVariables false
set_option linter.unusedSimpArgs false

/-! ### spec_l25Good: function 34 -/
mutual
def spec_l25Good.j0 : Nat → Bool → Int → Int → List (S62) → Int → Option (Bool)
  | 0, _, _, _, _, _ => none
  | k + 1, x26, x116000, x116001, x116002, x116003 => if x26 = true then (some false) else (spec_l25Good.l0 k 0 x116000 x116001 x116002 x116003)
def spec_l25Good.l0 : Nat → Int → Int → Int → List (S62) → Int → Option (Bool)
  | 0, _, _, _, _, _ => none
  | k + 1, x3, x116000, x116001, x116002, x116003 => if x3 < (x116002.length : Int) then (if 0 ≤ x3 then ((spec_l25Carpet.f k x116000 x116001 x116002 x116003 ((rd_T62 x116002 x3).f0) ((rd_T62 x116002 x3).f1) ((rd_T62 x116002 x3).f2) ((rd_T62 x116002 x3).f3) ((rd_T62 x116002 x3).f4)).bind fun t120 => (if t120 = true then (spec_l25Good.l1 k x3 0 x116000 x116001 x116002 x116003) else (some false))) else (none)) else (some true)
def spec_l25Good.l1 : Nat → Int → Int → Int → Int → List (S62) → Int → Option (Bool)
  | 0, _, _, _, _, _, _ => none
  | k + 1, x3, x4, x116000, x116001, x116002, x116003 => if x4 < x3 then (if 0 ≤ x3 then (if x3 < (x116002.length : Int) then (if ((rd_T62 x116002 x3).f3) > 0 then (if 0 ≤ x4 then (if x4 < (x116002.length : Int) then (if ((rd_T62 x116002 x4).f3) = ((rd_T62 x116002 x3).f3) then (some false) else (spec_l25Good.l1 k x3 (wrap64 (x4 + 1)) x116000 x116001 x116002 x116003)) else (none)) else (none)) else (spec_l25Good.l1 k x3 (wrap64 (x4 + 1)) x116000 x116001 x116002 x116003)) else (none)) else (none)) else (spec_l25Good.l0 k (wrap64 (x3 + 1)) x116000 x116001 x116002 x116003)
end
def spec_l25Good.f (k : Nat) (a0_0 : Int) (a0_1 : Int) (l0_2 : List (S62)) (a0_3 : Int) : Option (Bool) := (spec_l2Day.f a0_0).bind fun t116 => (if t116 = true then ((spec_l1In.f a0_1 1 4).bind fun t117 => (if t117 = true then ((spec_l1In.f a0_3 0 1000000).bind fun t118 => (if t118 = true then (spec_l25Good.j0 k (decide ((l0_2.length : Int) > 8)) a0_0 a0_1 l0_2 a0_3) else (spec_l25Good.j0 k true a0_0 a0_1 l0_2 a0_3))) else (spec_l25Good.j0 k true a0_0 a0_1 l0_2 a0_3))) else (spec_l25Good.j0 k true a0_0 a0_1 l0_2 a0_3))
def spec_l25Good.T6 : Bool × List (List Nat × List Nat) := (true, [([], []), ([], []), ([1], [1]), ([], []), ([2, 3], [2, 3]), ([4], [4]), ([0, 5], [0, 5]), ([6], [6])])
def spec_l25Good.B6 : List Nat := [0, 0, 2, 0, 14, 30, 63, 127]
theorem spec_l25Good.tab6 : rtab .any (opsOf Tryd.f34 6) = spec_l25Good.T6 := by kernel_rfl
theorem spec_l25Good.bits6 : waitsOk spec_l25Good.T6.2 spec_l25Good.B6 = true := by kernel_rfl
def spec_l25Good.T11 : Bool × List (List Nat × List Nat) := (true, [([], []), ([0], [0]), ([], []), ([1, 2], [1, 2]), ([3], [3]), ([4], [4]), ([5], [5]), ([6], [6]), ([7], [7]), ([8, 7], [7, 8]), ([7], [7]), ([9, 10, 7], [7, 9, 10]), ([11, 7], [7, 11]), ([12, 7], [7, 12]), ([7], [7]), ([14, 7], [7, 14]), ([7], [7]), ([15, 16, 7], [7, 15, 16]), ([17, 7], [7, 17]), ([18, 7], [7, 18]), ([13, 19, 7], [7, 13, 19]), ([7, 20], [7, 20])])
def spec_l25Good.B11 : List Nat := [0, 1, 0, 7, 15, 31, 63, 127, 255, 511, 255, 2047, 4095, 8191, 255, 16639, 255, 114943, 246015, 508159, 1048575, 2097151]
theorem spec_l25Good.tab11 : rtab .any (opsOf Tryd.f34 11) = spec_l25Good.T11 := by kernel_rfl
theorem spec_l25Good.bits11 : waitsOk spec_l25Good.T11.2 spec_l25Good.B11 = true := by kernel_rfl
set_option maxHeartbeats 8000000 in
set_option maxRecDepth 100000 in
theorem spec_l25Good.calls (k : Nat) (a0_0 : Int) (a0_1 : Int) (A0_2 : Option Addr) (c0_2 : Nat) (l0_2 : List (S62)) (a0_3 : Int) (r : Bool) (w : World) (hr0_2 : Kd.C k62 w A0_2 l0_2.length l0_2) (hc0_2 : l0_2.length ≤ c0_2) (h : spec_l25Good.f k a0_0 a0_1 l0_2 a0_3 = some r) :
    Calls Tryd.prog 34 #[.agg #[.int .i64 a0_0, .int .i64 a0_1, .slice A0_2 l0_2.length c0_2, .int .i64 a0_3]] w fun e w' => e = .returned (.bool r) ∧ Below w.heap.size w w' := by
  have hu26 := Tryd.underlying26
  have hu62 := Tryd.underlying62
  have HR0_2 := Aside0.mk hr0_2
  have HC0_2 := Aside0.mk hc0_2
  clear hr0_2 hc0_2
  have HB := Aside0.mk (Below.refl w.heap.size w)
  unfold spec_l25Good.f at h
  have H := h
  clear h
  have HC2 := Aside0.mk H
  clear H
  go_enter Tryd.func34, Tryd.ntmps34
  go_upto_region 1 with (first | ((with_reducible refine gate_dst (N := 1) rfl ?_); (try (refine gate_guard (by rfl) ?_; dsimp only)); refine qbox (N := 1) (cs := #[.int .i64 a0_0, .int .i64 a0_1, .slice A0_2 l0_2.length c0_2, .int .i64 a0_3]) (t := 26) ?_; intro gb115 hg w3 hbox hb; refine qs4 (below_step zz20 hb) (hbox) ((zz87 : w.heap.size ≤ gb115)) ((zz87 : w.heap.size ≤ gb115)) ?_; clear HB; intro HB BK115 GW115 GE115; clear hb hbox hg))
  (try simp only [Act.put, List.setIfInBounds_toArray, List.set_cons_zero, List.set_cons_succ])
  go_cut [26] (fun v26 wc => ∃ (kq : Nat) (x26_1 : Bool), v26 = .bool x26_1 ∧ Aside0 (spec_l25Good.j0 kq x26_1 a0_0 a0_1 l0_2 a0_3 = some r) ∧ Aside0 (kq ≤ k) ∧ Aside0 (wc.heap[gb115]? = some (.cells #[.int .i64 a0_0, .int .i64 a0_1, (.slice A0_2 l0_2.length c0_2), .int .i64 a0_3] 26 (0, 0))) ∧ Aside0 (Below w.heap.size w wc))
  case first =>
    have H := HC2.out
    clear HC2
    replace H := Option.bind_eq_some_iff.mp H
    obtain ⟨t116, A40, H⟩ := H
    (try dsimp only at H)
    have A4 := Aside0.mk A40
    clear A40
    by_cases c5 : t116 = true
    rotate_left
    · replace c5 := Bool.eq_false_iff.mpr c5
      subst c5
      rw [if_neg (show ¬ (false = true) by decide)] at H
      have H' := Aside0.mk H
      clear H
      obtain ⟨hcz13_0, hcz13_1, hcz13_2, hcz13_3, hfz13_0, hfz13_1, hfz13_2, hfz13_3⟩ := qc4 BK115.out
      go_wp2_with (first | ((with_reducible refine gate_callee (f := 58) rfl ?_); refine qcall 7 Tryd.func58 rfl #[.int .i64 a0_0] ?_; (with_reducible refine (spec_l2Day.calls a0_0 false _ A4.out).mono ?_); rintro e w' ⟨rfl, ⟨nd, rfl⟩⟩; refine ⟨_, rfl, ?_⟩))
      go_meet
      case rel => exact ⟨_, (true), zz4, H', ⟨zz2⟩, ⟨zz12⟩, ⟨zz29⟩⟩
    subst c5
    rw [if_pos rfl] at H
    replace H := Option.bind_eq_some_iff.mp H
    obtain ⟨t117, A60, H⟩ := H
    (try dsimp only at H)
    have A6 := Aside0.mk A60
    clear A60
    by_cases c7 : t117 = true
    rotate_left
    · replace c7 := Bool.eq_false_iff.mpr c7
      subst c7
      rw [if_neg (show ¬ (false = true) by decide)] at H
      have H' := Aside0.mk H
      clear H
      obtain ⟨hcz12_0, hcz12_1, hcz12_2, hcz12_3, hfz12_0, hfz12_1, hfz12_2, hfz12_3⟩ := qc4 BK115.out
      go_wp2_with (first | ((with_reducible refine gate_callee (f := 58) rfl ?_); refine qcall 7 Tryd.func58 rfl #[.int .i64 a0_0] ?_; (with_reducible refine (spec_l2Day.calls a0_0 true _ A4.out).mono ?_); rintro e w' ⟨rfl, ⟨nd, rfl⟩⟩; refine ⟨_, rfl, ?_⟩) | (go_at_call 42; (with_reducible refine (spec_l1In.calls a0_1 1 4 false _ A6.out).mono ?_); rintro e w' ⟨rfl, ⟨nd, rfl⟩⟩))
      go_meet
      case rel => exact ⟨_, (true), zz4, H', ⟨zz2⟩, ⟨zz12⟩, ⟨zz29⟩⟩
    subst c7
    rw [if_pos rfl] at H
    replace H := Option.bind_eq_some_iff.mp H
    obtain ⟨t118, A80, H⟩ := H
    (try dsimp only at H)
    have A8 := Aside0.mk A80
    clear A80
    by_cases c9 : t118 = true
    · subst c9
      rw [if_pos rfl] at H
      have H' := Aside0.mk H
      clear H
      obtain ⟨hcz10_0, hcz10_1, hcz10_2, hcz10_3, hfz10_0, hfz10_1, hfz10_2, hfz10_3⟩ := qc4 BK115.out
      go_wp2_with (first | ((with_reducible refine gate_callee (f := 58) rfl ?_); refine qcall 7 Tryd.func58 rfl #[.int .i64 a0_0] ?_; (with_reducible refine (spec_l2Day.calls a0_0 true _ A4.out).mono ?_); rintro e w' ⟨rfl, ⟨nd, rfl⟩⟩; refine ⟨_, rfl, ?_⟩) | (go_at_call 42; (with_reducible refine (spec_l1In.calls a0_1 1 4 true _ A6.out).mono ?_); rintro e w' ⟨rfl, ⟨nd, rfl⟩⟩) | (go_at_call 42; (with_reducible refine (spec_l1In.calls a0_3 0 1000000 true _ A8.out).mono ?_); rintro e w' ⟨rfl, ⟨nd, rfl⟩⟩))
      go_meet
      case rel => exact ⟨_, (decide ((l0_2.length : Int) > 8)), zz4, H', ⟨zz2⟩, ⟨zz12⟩, ⟨zz29⟩⟩
    replace c9 := Bool.eq_false_iff.mpr c9
    subst c9
    rw [if_neg (show ¬ (false = true) by decide)] at H
    have H' := Aside0.mk H
    clear H
    obtain ⟨hcz11_0, hcz11_1, hcz11_2, hcz11_3, hfz11_0, hfz11_1, hfz11_2, hfz11_3⟩ := qc4 BK115.out
    go_wp2_with (first | ((with_reducible refine gate_callee (f := 58) rfl ?_); refine qcall 7 Tryd.func58 rfl #[.int .i64 a0_0] ?_; (with_reducible refine (spec_l2Day.calls a0_0 true _ A4.out).mono ?_); rintro e w' ⟨rfl, ⟨nd, rfl⟩⟩; refine ⟨_, rfl, ?_⟩) | (go_at_call 42; (with_reducible refine (spec_l1In.calls a0_1 1 4 true _ A6.out).mono ?_); rintro e w' ⟨rfl, ⟨nd, rfl⟩⟩) | (go_at_call 42; (with_reducible refine (spec_l1In.calls a0_3 0 1000000 false _ A8.out).mono ?_); rintro e w' ⟨rfl, ⟨nd, rfl⟩⟩))
    go_meet
    case rel => exact ⟨_, (true), zz4, H', ⟨zz2⟩, ⟨zz12⟩, ⟨zz29⟩⟩
  case rest =>
    clear HC2
    try clear p2
    try clear c3
    try clear c5
    try clear c7
    try clear c9
    try clear hcz10_0
    try clear hcz10_1
    try clear hcz10_2
    try clear hcz10_3
    try clear hcz11_0
    try clear hcz11_1
    try clear hcz11_2
    try clear hcz11_3
    try clear hcz12_0
    try clear hcz12_1
    try clear hcz12_2
    try clear hcz12_3
    try clear hcz13_0
    try clear hcz13_1
    try clear hcz13_2
    try clear hcz13_3
    try clear hfz10_0
    try clear hfz10_1
    try clear hfz10_2
    try clear hfz10_3
    try clear hfz11_0
    try clear hfz11_1
    try clear hfz11_2
    try clear hfz11_3
    try clear hfz12_0
    try clear hfz12_1
    try clear hfz12_2
    try clear hfz12_3
    try clear hfz13_0
    try clear hfz13_1
    try clear hfz13_2
    try clear hfz13_3
    obtain ⟨kq, x26_1, rfl, HA, HJ1, BK115, HB⟩ := hcut
    cases kq with
    | zero => exact absurd HA.out (by simp [spec_l25Good.j0])
    | succ kj1 =>
      have H := HA.out
      clear HA
      simp only [spec_l25Good.j0] at H
      by_cases c14 : x26_1 = true
      · subst c14
        rw [if_pos rfl] at H
        obtain rfl := Option.some.inj H
        go_wp2
        go_ret
        exact ⟨zz9, zz29⟩
      replace c14 := Bool.eq_false_iff.mpr c14
      subst c14
      rw [if_neg (show ¬ (false = true) by decide)] at H
      have H' := Aside0.mk H
      clear H
      go_wp2
      go_loopg [3] kj1 (fun kq v3 w' => ∃ (x3_2 : Int), v3 = .int .i64 x3_2 ∧ Aside0 (spec_l25Good.l0 kq x3_2 a0_0 a0_1 l0_2 a0_3 = some r) ∧ Aside0 (kq ≤ kj1) ∧ Aside0 (w'.heap[gb115]? = some (.cells #[.int .i64 a0_0, .int .i64 a0_1, (.slice A0_2 l0_2.length c0_2), .int .i64 a0_3] 26 (0, 0))) ∧ Aside0 (Below w.heap.size w w'))
      case atStart => exact ⟨(0), zz4, H', ⟨Nat.le_refl _⟩, ⟨zz12⟩, ⟨zz29⟩⟩
      case round =>
        clear H'
        try clear c1
        try clear p2
        try clear c3
        try clear c5
        try clear c7
        try clear c9
        try clear c14
        try clear hcz10_0
        try clear hcz10_1
        try clear hcz10_2
        try clear hcz10_3
        try clear hcz11_0
        try clear hcz11_1
        try clear hcz11_2
        try clear hcz11_3
        try clear hcz12_0
        try clear hcz12_1
        try clear hcz12_2
        try clear hcz12_3
        try clear hcz13_0
        try clear hcz13_1
        try clear hcz13_2
        try clear hcz13_3
        try clear hfz10_0
        try clear hfz10_1
        try clear hfz10_2
        try clear hfz10_3
        try clear hfz11_0
        try clear hfz11_1
        try clear hfz11_2
        try clear hfz11_3
        try clear hfz12_0
        try clear hfz12_1
        try clear hfz12_2
        try clear hfz12_3
        try clear hfz13_0
        try clear hfz13_1
        try clear hfz13_2
        try clear hfz13_3
        try clear p2
        obtain ⟨x3_2, rfl, HA, HK2, BK115, HB⟩ := hrel
        cases gk with
        | zero => exact absurd HA.out (by simp [spec_l25Good.l0])
        | succ k2 =>
          have H := HA.out
          clear HA
          simp only [spec_l25Good.l0] at H
          by_cases c15 : x3_2 < (l0_2.length : Int)
          rotate_left
          · rw [if_neg c15] at H
            have c15b0 := decide_eq_false c15
            clear c15
            obtain rfl := Option.some.inj H
            obtain ⟨hcz35_0, hcz35_1, hcz35_2, hcz35_3, hfz35_0, hfz35_1, hfz35_2, hfz35_3⟩ := qc4 BK115.out
            go_wp2
            go_ret
            exact ⟨zz9, zz29⟩
          rw [if_pos c15] at H
          have c15b0 := decide_eq_true c15
          clear c15
          by_cases c16 : 0 ≤ x3_2
          rotate_left
          · rw [if_neg c16] at H
            exact absurd H (by simp)
          rw [if_pos c16] at H
          have c16b0 := decide_eq_true c16
          clear c16
          replace H := Option.bind_eq_some_iff.mp H
          obtain ⟨t120, A170, H⟩ := H
          (try dsimp only at H)
          have A17 := Aside0.mk A170
          clear A170
          by_cases c18 : t120 = true
          rotate_left
          · replace c18 := Bool.eq_false_iff.mpr c18
            subst c18
            rw [if_neg (show ¬ (false = true) by decide)] at H
            obtain rfl := Option.some.inj H
            obtain ⟨hcz32_0, hcz32_1, hcz32_2, hcz32_3, hfz32_0, hfz32_1, hfz32_2, hfz32_3⟩ := qc4 BK115.out
            try go_wp2
            refine qs2 (blk_drew BK115.out) (below_drew1 HB.out) ?_; clear BK115 HB; intro BK115 HB
            have p119 : 0 ≤ (x3_2 : Int) := of_decide_eq_true zz5
            have q119 : x3_2 < (l0_2.length : Int) := of_decide_eq_true zz5
            obtain ⟨ad119, e119, hx119_0, hx119_1, hx119_2, hx119_3, hx119_4⟩ := at_T62 HR0_2.out x3_2 p119 q119
            have hw119_4 := hx119_4
            have hw119_3 := hx119_3
            have hw119_2 := hx119_2
            have hw119_1 := hx119_1
            have hw119_0 := hx119_0
            cases e119
            replace hx119_0 := (HB.out.cell (World.block_lt_of_cell? w _ hx119_0)).trans hx119_0
            replace hx119_1 := (HB.out.cell (World.block_lt_of_cell? w _ hx119_1)).trans hx119_1
            replace hx119_2 := (HB.out.cell (World.block_lt_of_cell? w _ hx119_2)).trans hx119_2
            replace hx119_3 := (HB.out.cell (World.block_lt_of_cell? w _ hx119_3)).trans hx119_3
            replace hx119_4 := (HB.out.cell (World.block_lt_of_cell? w _ hx119_4)).trans hx119_4
            replace p119 := eq_true p119
            replace q119 := eq_true q119
            refine start_ (n := 8) (S := fun w' => w'.cell? ⟨gb115, 0, none⟩ = some (.int .i64 a0_0) ∧ w'.cell? ⟨gb115, 1, none⟩ = some (.int .i64 a0_1) ∧ w'.cell? ⟨gb115, 2, none⟩ = some (.slice (some ad119) l0_2.length c0_2) ∧ w'.cell? ⟨gb115, 3, none⟩ = some (.int .i64 a0_3) ∧ w'.cell? (ad119.add ((x3_2).toNat * 5)) = some (.int .i64 ((rd_T62 l0_2 x3_2).f0)) ∧ w'.cell? ⟨(ad119.add ((x3_2).toNat * 5)).block, (ad119.add ((x3_2).toNat * 5)).off + 1, none⟩ = some (.int .i64 ((rd_T62 l0_2 x3_2).f1)) ∧ w'.cell? ⟨(ad119.add ((x3_2).toNat * 5)).block, (ad119.add ((x3_2).toNat * 5)).off + 2, none⟩ = some (.int .i64 ((rd_T62 l0_2 x3_2).f2)) ∧ w'.cell? ⟨(ad119.add ((x3_2).toNat * 5)).block, (ad119.add ((x3_2).toNat * 5)).off + 3, none⟩ = some (.int .i64 ((rd_T62 l0_2 x3_2).f3)) ∧ w'.cell? ⟨(ad119.add ((x3_2).toNat * 5)).block, (ad119.add ((x3_2).toNat * 5)).off + 4, none⟩ = some (.int .i64 ((rd_T62 l0_2 x3_2).f4))) (ds := []) #[false, false, false, false, false, false, false, false] (by kernel_rfl) rfl rfl ⟨(blk_cell BK115.out 0).trans rfl, (blk_cell BK115.out 1).trans rfl, (blk_cell BK115.out 2).trans rfl, (blk_cell BK115.out 3).trans rfl, ((HB.out.cell (World.block_lt_of_cell? w _ hw119_0)).trans hw119_0), ((HB.out.cell (World.block_lt_of_cell? w _ hw119_1)).trans hw119_1), ((HB.out.cell (World.block_lt_of_cell? w _ hw119_2)).trans hw119_2), ((HB.out.cell (World.block_lt_of_cell? w _ hw119_3)).trans hw119_3), ((HB.out.cell (World.block_lt_of_cell? w _ hw119_4)).trans hw119_4)⟩ (fun hHeld => ?_); refine with_tabW spec_l25Good.tab6 spec_l25Good.bits6 (fun HT_ HW_ => ?_)
            generalize wr.drew = w33 at BK115 HB hx119_0 hx119_1 hx119_2 hx119_3 hx119_4 hHeld ⊢
            refine qp 1 35 ?_; refine qp 3 37 ?_; refine qt9 0 34 ?_; refine qt9 2 36 ?_; refine qp 4 38 ?_; refine qt9 5 39 ?_
            refine one_ (i := 6) (N := some 40) #[true, true, true, true, true, true, true, false] rfl rfl (one_of HT_.out (by kernel_rfl)) (by decide) (fun K hK => ?_)
            refine goes_ Tryd.func59 (by kernel_rfl) rfl #[.agg #[.int .i64 a0_0, .int .i64 a0_1, .slice (some ad119) l0_2.length c0_2, .int .i64 a0_3], .agg #[.int .i64 ((rd_T62 l0_2 x3_2).f0), .int .i64 ((rd_T62 l0_2 x3_2).f1), .int .i64 ((rd_T62 l0_2 x3_2).f2), .int .i64 ((rd_T62 l0_2 x3_2).f3), .int .i64 ((rd_T62 l0_2 x3_2).f4)]] (by rfl) rfl rfl zz21 ?_
            with_reducible refine (spec_l25Carpet.calls k2 a0_0 a0_1 _ _ l0_2 a0_3 ((rd_T62 l0_2 x3_2).f0) ((rd_T62 l0_2 x3_2).f1) ((rd_T62 l0_2 x3_2).f2) ((rd_T62 l0_2 x3_2).f3) ((rd_T62 l0_2 x3_2).f4) false _ ?side1 ?side2 A17.out).mono ?_
            (case side1 => exact zz54)
            (case side2 => exact zz0)
            rintro e w34 ⟨rfl, hb⟩
            refine ⟨_, rfl, ?_⟩
            refine qs2 (blk_below (qb BK115.out) hb) (below_step zz29 hb) ?_; clear BK115 HB; intro BK115 HB
            (try clear hb)
            (try clear hb2)
            (try clear hk)
            (try clear hi)
            refine hK.out _ _ ⟨(blk_cell BK115.out 0).trans rfl, (blk_cell BK115.out 1).trans rfl, (blk_cell BK115.out 2).trans rfl, (blk_cell BK115.out 3).trans rfl, ((HB.out.cell (World.block_lt_of_cell? w _ hw119_0)).trans hw119_0), ((HB.out.cell (World.block_lt_of_cell? w _ hw119_1)).trans hw119_1), ((HB.out.cell (World.block_lt_of_cell? w _ hw119_2)).trans hw119_2), ((HB.out.cell (World.block_lt_of_cell? w _ hw119_3)).trans hw119_3), ((HB.out.cell (World.block_lt_of_cell? w _ hw119_4)).trans hw119_4)⟩ (fun hHeld => ?_)
            clear hK K
            refine norm_ (a' := ?_) ?_ ?_
            rotate_left
            · show Act.put _ (some 40) _ = _
              simp only [Act.put, List.setIfInBounds_toArray, List.set_cons_zero, List.set_cons_succ, i64_w, i32_w]
              rfl
            refine qp 7 41 ?_
            refine done_ (done_of HT_.out (by kernel_rfl)) ?_
            try go_wp2
            go_ret
            exact ⟨zz9, zz29⟩
          subst c18
          rw [if_pos rfl] at H
          have H' := Aside0.mk H
          clear H
          obtain ⟨hcz19_0, hcz19_1, hcz19_2, hcz19_3, hfz19_0, hfz19_1, hfz19_2, hfz19_3⟩ := qc4 BK115.out
          try go_wp2
          refine qs2 (blk_drew BK115.out) (below_drew1 HB.out) ?_; clear BK115 HB; intro BK115 HB
          have p119 : 0 ≤ (x3_2 : Int) := of_decide_eq_true zz5
          have q119 : x3_2 < (l0_2.length : Int) := of_decide_eq_true zz5
          obtain ⟨ad119, e119, hx119_0, hx119_1, hx119_2, hx119_3, hx119_4⟩ := at_T62 HR0_2.out x3_2 p119 q119
          have hw119_4 := hx119_4
          have hw119_3 := hx119_3
          have hw119_2 := hx119_2
          have hw119_1 := hx119_1
          have hw119_0 := hx119_0
          cases e119
          replace hx119_0 := (HB.out.cell (World.block_lt_of_cell? w _ hx119_0)).trans hx119_0
          replace hx119_1 := (HB.out.cell (World.block_lt_of_cell? w _ hx119_1)).trans hx119_1
          replace hx119_2 := (HB.out.cell (World.block_lt_of_cell? w _ hx119_2)).trans hx119_2
          replace hx119_3 := (HB.out.cell (World.block_lt_of_cell? w _ hx119_3)).trans hx119_3
          replace hx119_4 := (HB.out.cell (World.block_lt_of_cell? w _ hx119_4)).trans hx119_4
          replace p119 := eq_true p119
          replace q119 := eq_true q119
          refine start_ (n := 8) (S := fun w' => w'.cell? ⟨gb115, 0, none⟩ = some (.int .i64 a0_0) ∧ w'.cell? ⟨gb115, 1, none⟩ = some (.int .i64 a0_1) ∧ w'.cell? ⟨gb115, 2, none⟩ = some (.slice (some ad119) l0_2.length c0_2) ∧ w'.cell? ⟨gb115, 3, none⟩ = some (.int .i64 a0_3) ∧ w'.cell? (ad119.add ((x3_2).toNat * 5)) = some (.int .i64 ((rd_T62 l0_2 x3_2).f0)) ∧ w'.cell? ⟨(ad119.add ((x3_2).toNat * 5)).block, (ad119.add ((x3_2).toNat * 5)).off + 1, none⟩ = some (.int .i64 ((rd_T62 l0_2 x3_2).f1)) ∧ w'.cell? ⟨(ad119.add ((x3_2).toNat * 5)).block, (ad119.add ((x3_2).toNat * 5)).off + 2, none⟩ = some (.int .i64 ((rd_T62 l0_2 x3_2).f2)) ∧ w'.cell? ⟨(ad119.add ((x3_2).toNat * 5)).block, (ad119.add ((x3_2).toNat * 5)).off + 3, none⟩ = some (.int .i64 ((rd_T62 l0_2 x3_2).f3)) ∧ w'.cell? ⟨(ad119.add ((x3_2).toNat * 5)).block, (ad119.add ((x3_2).toNat * 5)).off + 4, none⟩ = some (.int .i64 ((rd_T62 l0_2 x3_2).f4))) (ds := []) #[false, false, false, false, false, false, false, false] (by kernel_rfl) rfl rfl ⟨(blk_cell BK115.out 0).trans rfl, (blk_cell BK115.out 1).trans rfl, (blk_cell BK115.out 2).trans rfl, (blk_cell BK115.out 3).trans rfl, ((HB.out.cell (World.block_lt_of_cell? w _ hw119_0)).trans hw119_0), ((HB.out.cell (World.block_lt_of_cell? w _ hw119_1)).trans hw119_1), ((HB.out.cell (World.block_lt_of_cell? w _ hw119_2)).trans hw119_2), ((HB.out.cell (World.block_lt_of_cell? w _ hw119_3)).trans hw119_3), ((HB.out.cell (World.block_lt_of_cell? w _ hw119_4)).trans hw119_4)⟩ (fun hHeld => ?_); refine with_tabW spec_l25Good.tab6 spec_l25Good.bits6 (fun HT_ HW_ => ?_)
          generalize wr.drew = w20 at BK115 HB hx119_0 hx119_1 hx119_2 hx119_3 hx119_4 hHeld ⊢
          refine qp 1 35 ?_; refine qp 3 37 ?_; refine qt9 0 34 ?_; refine qt9 2 36 ?_; refine qp 4 38 ?_; refine qt9 5 39 ?_
          refine one_ (i := 6) (N := some 40) #[true, true, true, true, true, true, true, false] rfl rfl (one_of HT_.out (by kernel_rfl)) (by decide) (fun K hK => ?_)
          refine goes_ Tryd.func59 (by kernel_rfl) rfl #[.agg #[.int .i64 a0_0, .int .i64 a0_1, .slice (some ad119) l0_2.length c0_2, .int .i64 a0_3], .agg #[.int .i64 ((rd_T62 l0_2 x3_2).f0), .int .i64 ((rd_T62 l0_2 x3_2).f1), .int .i64 ((rd_T62 l0_2 x3_2).f2), .int .i64 ((rd_T62 l0_2 x3_2).f3), .int .i64 ((rd_T62 l0_2 x3_2).f4)]] (by rfl) rfl rfl zz21 ?_
          with_reducible refine (spec_l25Carpet.calls k2 a0_0 a0_1 _ _ l0_2 a0_3 ((rd_T62 l0_2 x3_2).f0) ((rd_T62 l0_2 x3_2).f1) ((rd_T62 l0_2 x3_2).f2) ((rd_T62 l0_2 x3_2).f3) ((rd_T62 l0_2 x3_2).f4) true _ ?side1 ?side2 A17.out).mono ?_
          (case side1 => exact zz54)
          (case side2 => exact zz0)
          rintro e w21 ⟨rfl, hb⟩
          refine ⟨_, rfl, ?_⟩
          refine qs2 (blk_below (qb BK115.out) hb) (below_step zz29 hb) ?_; clear BK115 HB; intro BK115 HB
          (try clear hb)
          (try clear hb2)
          (try clear hk)
          (try clear hi)
          refine hK.out _ _ ⟨(blk_cell BK115.out 0).trans rfl, (blk_cell BK115.out 1).trans rfl, (blk_cell BK115.out 2).trans rfl, (blk_cell BK115.out 3).trans rfl, ((HB.out.cell (World.block_lt_of_cell? w _ hw119_0)).trans hw119_0), ((HB.out.cell (World.block_lt_of_cell? w _ hw119_1)).trans hw119_1), ((HB.out.cell (World.block_lt_of_cell? w _ hw119_2)).trans hw119_2), ((HB.out.cell (World.block_lt_of_cell? w _ hw119_3)).trans hw119_3), ((HB.out.cell (World.block_lt_of_cell? w _ hw119_4)).trans hw119_4)⟩ (fun hHeld => ?_)
          clear hK K
          refine norm_ (a' := ?_) ?_ ?_
          rotate_left
          · show Act.put _ (some 40) _ = _
            simp only [Act.put, List.setIfInBounds_toArray, List.set_cons_zero, List.set_cons_succ, i64_w, i32_w]
            rfl
          refine qp 7 41 ?_
          refine done_ (done_of HT_.out (by kernel_rfl)) ?_
          try go_wp2
          go_loopg [4] k2 (fun kq v4 w' => ∃ (x4_3 : Int), v4 = .int .i64 x4_3 ∧ Aside0 (spec_l25Good.l1 kq x3_2 x4_3 a0_0 a0_1 l0_2 a0_3 = some r) ∧ Aside0 (kq ≤ k2) ∧ Aside0 (w'.heap[gb115]? = some (.cells #[.int .i64 a0_0, .int .i64 a0_1, (.slice (some ad119) l0_2.length c0_2), .int .i64 a0_3] 26 (0, 0))) ∧ Aside0 (Below w.heap.size w w'))
          case atStart => exact ⟨(0), zz4, H', ⟨Nat.le_refl _⟩, ⟨zz12⟩, ⟨zz29⟩⟩
          case round =>
            clear H'
            try clear c1
            try clear p1
            try clear q1
            try clear hx1
            try clear p2
            try clear c3
            try clear c5
            try clear c7
            try clear c9
            try clear p11
            try clear q11
            try clear hx11
            try clear c14
            try clear c15
            try clear c15b0
            try clear c16
            try clear c16b0
            try clear c18
            try clear hcz10_0
            try clear hcz10_1
            try clear hcz10_2
            try clear hcz10_3
            try clear hcz11_0
            try clear hcz11_1
            try clear hcz11_2
            try clear hcz11_3
            try clear hcz12_0
            try clear hcz12_1
            try clear hcz12_2
            try clear hcz12_3
            try clear hcz13_0
            try clear hcz13_1
            try clear hcz13_2
            try clear hcz13_3
            try clear hcz19_0
            try clear hcz19_1
            try clear hcz19_2
            try clear hcz19_3
            try clear hfz10_0
            try clear hfz10_1
            try clear hfz10_2
            try clear hfz10_3
            try clear hfz11_0
            try clear hfz11_1
            try clear hfz11_2
            try clear hfz11_3
            try clear hfz12_0
            try clear hfz12_1
            try clear hfz12_2
            try clear hfz12_3
            try clear hfz13_0
            try clear hfz13_1
            try clear hfz13_2
            try clear hfz13_3
            try clear hfz19_0
            try clear hfz19_1
            try clear hfz19_2
            try clear hfz19_3
            try clear hx119_0
            try clear hx119_1
            try clear hx119_2
            try clear hx119_3
            try clear hx119_4
            try clear p119
            try clear p2
            try clear q119
            obtain ⟨x4_3, rfl, HA, HK3, BK115, HB⟩ := hrel
            cases gk with
            | zero => exact absurd HA.out (by simp [spec_l25Good.l1])
            | succ k3 =>
              have H := HA.out
              clear HA
              simp only [spec_l25Good.l1] at H
              by_cases c22 : x4_3 < x3_2
              rotate_left
              · rw [if_neg c22] at H
                have c22b0 := decide_eq_false c22
                clear c22
                have H' := Aside0.mk H
                clear H
                go_wp2
                go_roundg k3
                case measure => have := HJ1.out; have := HK2.out; have := HK3.out; omega
                case rel => exact ⟨(wrap64 (x3_2 + 1)), zz4, H', ⟨by have := HJ1.out; have := HK2.out; have := HK3.out; omega⟩, ⟨zz12⟩, ⟨zz29⟩⟩
              rw [if_pos c22] at H
              have c22b0 := decide_eq_true c22
              clear c22
              by_cases c23 : 0 ≤ x3_2
              rotate_left
              · rw [if_neg c23] at H
                exact absurd H (by simp)
              rw [if_pos c23] at H
              have c23b0 := decide_eq_true c23
              clear c23
              by_cases c24 : x3_2 < (l0_2.length : Int)
              rotate_left
              · rw [if_neg c24] at H
                exact absurd H (by simp)
              rw [if_pos c24] at H
              have c24b0 := decide_eq_true c24
              clear c24
              by_cases c25 : ((rd_T62 l0_2 x3_2).f3) > 0
              rotate_left
              · rw [if_neg c25] at H
                have c25b0 := decide_eq_false c25
                clear c25
                have H' := Aside0.mk H
                clear H
                try go_wp2
                refine qs2 (blk_drew BK115.out) (below_drew1 HB.out) ?_; clear BK115 HB; intro BK115 HB
                have p121 : 0 ≤ (x3_2 : Int) := of_decide_eq_true zz5
                have q121 : x3_2 < (l0_2.length : Int) := of_decide_eq_true zz5
                obtain ⟨ad121, e121, hx121_0, hx121_1, hx121_2, hx121_3, hx121_4⟩ := at_T62 HR0_2.out x3_2 p121 q121
                have hw121_4 := hx121_4
                have hw121_3 := hx121_3
                have hw121_2 := hx121_2
                have hw121_1 := hx121_1
                have hw121_0 := hx121_0
                obtain rfl : ad119 = ad121 := (by injection e121)
                replace hx121_0 := (HB.out.cell (World.block_lt_of_cell? w _ hx121_0)).trans hx121_0
                replace hx121_1 := (HB.out.cell (World.block_lt_of_cell? w _ hx121_1)).trans hx121_1
                replace hx121_2 := (HB.out.cell (World.block_lt_of_cell? w _ hx121_2)).trans hx121_2
                replace hx121_3 := (HB.out.cell (World.block_lt_of_cell? w _ hx121_3)).trans hx121_3
                replace hx121_4 := (HB.out.cell (World.block_lt_of_cell? w _ hx121_4)).trans hx121_4
                replace p121 := eq_true p121
                replace q121 := eq_true q121
                refine start_ (n := 22) (S := fun w' => w'.cell? ⟨gb115, 0, none⟩ = some (.int .i64 a0_0) ∧ w'.cell? ⟨gb115, 1, none⟩ = some (.int .i64 a0_1) ∧ w'.cell? ⟨gb115, 2, none⟩ = some (.slice (some ad119) l0_2.length c0_2) ∧ w'.cell? ⟨gb115, 3, none⟩ = some (.int .i64 a0_3) ∧ w'.cell? (ad119.add ((x3_2).toNat * 5)) = some (.int .i64 ((rd_T62 l0_2 x3_2).f0)) ∧ w'.cell? ⟨(ad119.add ((x3_2).toNat * 5)).block, (ad119.add ((x3_2).toNat * 5)).off + 1, none⟩ = some (.int .i64 ((rd_T62 l0_2 x3_2).f1)) ∧ w'.cell? ⟨(ad119.add ((x3_2).toNat * 5)).block, (ad119.add ((x3_2).toNat * 5)).off + 2, none⟩ = some (.int .i64 ((rd_T62 l0_2 x3_2).f2)) ∧ w'.cell? ⟨(ad119.add ((x3_2).toNat * 5)).block, (ad119.add ((x3_2).toNat * 5)).off + 3, none⟩ = some (.int .i64 ((rd_T62 l0_2 x3_2).f3)) ∧ w'.cell? ⟨(ad119.add ((x3_2).toNat * 5)).block, (ad119.add ((x3_2).toNat * 5)).off + 4, none⟩ = some (.int .i64 ((rd_T62 l0_2 x3_2).f4))) (ds := []) #[false, false, false, false, false, false, false, false, false, false, false, false, false, false, false, false, false, false, false, false, false, false] (by kernel_rfl) rfl rfl ⟨(blk_cell BK115.out 0).trans rfl, (blk_cell BK115.out 1).trans rfl, (blk_cell BK115.out 2).trans rfl, (blk_cell BK115.out 3).trans rfl, ((HB.out.cell (World.block_lt_of_cell? w _ hw121_0)).trans hw121_0), ((HB.out.cell (World.block_lt_of_cell? w _ hw121_1)).trans hw121_1), ((HB.out.cell (World.block_lt_of_cell? w _ hw121_2)).trans hw121_2), ((HB.out.cell (World.block_lt_of_cell? w _ hw121_3)).trans hw121_3), ((HB.out.cell (World.block_lt_of_cell? w _ hw121_4)).trans hw121_4)⟩ (fun hHeld => ?_); refine with_tabW spec_l25Good.tab11 spec_l25Good.bits11 (fun HT_ HW_ => ?_)
                generalize wr.drew = w31 at BK115 HB hx121_0 hx121_1 hx121_2 hx121_3 hx121_4 hHeld ⊢
                refine qp 0 47 ?_; refine qp 2 49 ?_; refine qt9 1 48 ?_; refine qp 3 50 ?_; refine qp 4 51 ?_; refine qt9 5 52 ?_; refine qp 6 53 ?_; refine qp 7 54 ?_; refine qu 8 55 ?_; refine qu 9 56 ?_; refine qu 10 57 ?_; refine qu 11 58 ?_; refine qu 12 59 ?_; refine qu 13 60 ?_; refine qu 14 61 ?_; refine qu 15 62 ?_; refine qu 16 63 ?_; refine qu 17 64 ?_; refine qu 18 65 ?_; refine qu 19 66 ?_; refine qu 20 67 ?_; refine qp 21 68 ?_
                refine done_ (done_of HT_.out (by kernel_rfl)) ?_
                try go_wp2
                go_roundg k3
                case measure => have := HJ1.out; have := HK2.out; have := HK3.out; omega
                case rel => exact ⟨(wrap64 (x4_3 + 1)), zz4, H', ⟨by have := HJ1.out; have := HK2.out; have := HK3.out; omega⟩, ⟨zz12⟩, ⟨zz29⟩⟩
              rw [if_pos c25] at H
              have c25b0 := decide_eq_true c25
              clear c25
              by_cases c26 : 0 ≤ x4_3
              rotate_left
              · rw [if_neg c26] at H
                exact absurd H (by simp)
              rw [if_pos c26] at H
              have c26b0 := decide_eq_true c26
              clear c26
              by_cases c27 : x4_3 < (l0_2.length : Int)
              rotate_left
              · rw [if_neg c27] at H
                exact absurd H (by simp)
              rw [if_pos c27] at H
              have c27b0 := decide_eq_true c27
              clear c27
              by_cases c28 : ((rd_T62 l0_2 x4_3).f3) = ((rd_T62 l0_2 x3_2).f3)
              · rw [if_pos c28] at H
                have c28b0 := beq_iff_eq.mpr c28
                have c28b1 := bne_eq_false_iff_eq.mpr c28
                clear c28
                obtain rfl := Option.some.inj H
                try go_wp2
                refine qs2 (blk_drew BK115.out) (below_drew1 HB.out) ?_; clear BK115 HB; intro BK115 HB
                have p121 : 0 ≤ (x3_2 : Int) := of_decide_eq_true zz5
                have q121 : x3_2 < (l0_2.length : Int) := of_decide_eq_true zz5
                obtain ⟨ad121, e121, hx121_0, hx121_1, hx121_2, hx121_3, hx121_4⟩ := at_T62 HR0_2.out x3_2 p121 q121
                have hw121_4 := hx121_4
                have hw121_3 := hx121_3
                have hw121_2 := hx121_2
                have hw121_1 := hx121_1
                have hw121_0 := hx121_0
                obtain rfl : ad119 = ad121 := (by injection e121)
                replace hx121_0 := (HB.out.cell (World.block_lt_of_cell? w _ hx121_0)).trans hx121_0
                replace hx121_1 := (HB.out.cell (World.block_lt_of_cell? w _ hx121_1)).trans hx121_1
                replace hx121_2 := (HB.out.cell (World.block_lt_of_cell? w _ hx121_2)).trans hx121_2
                replace hx121_3 := (HB.out.cell (World.block_lt_of_cell? w _ hx121_3)).trans hx121_3
                replace hx121_4 := (HB.out.cell (World.block_lt_of_cell? w _ hx121_4)).trans hx121_4
                replace p121 := eq_true p121
                replace q121 := eq_true q121
                have p122 : 0 ≤ (x4_3 : Int) := of_decide_eq_true zz5
                have q122 : x4_3 < (l0_2.length : Int) := of_decide_eq_true zz5
                obtain ⟨ad122, e122, hx122_0, hx122_1, hx122_2, hx122_3, hx122_4⟩ := at_T62 HR0_2.out x4_3 p122 q122
                have hw122_4 := hx122_4
                have hw122_3 := hx122_3
                have hw122_2 := hx122_2
                have hw122_1 := hx122_1
                have hw122_0 := hx122_0
                obtain rfl : ad119 = ad122 := (by injection e122)
                replace hx122_0 := (HB.out.cell (World.block_lt_of_cell? w _ hx122_0)).trans hx122_0
                replace hx122_1 := (HB.out.cell (World.block_lt_of_cell? w _ hx122_1)).trans hx122_1
                replace hx122_2 := (HB.out.cell (World.block_lt_of_cell? w _ hx122_2)).trans hx122_2
                replace hx122_3 := (HB.out.cell (World.block_lt_of_cell? w _ hx122_3)).trans hx122_3
                replace hx122_4 := (HB.out.cell (World.block_lt_of_cell? w _ hx122_4)).trans hx122_4
                replace p122 := eq_true p122
                replace q122 := eq_true q122
                have p123 : 0 ≤ (x3_2 : Int) := of_decide_eq_true zz5
                have q123 : x3_2 < (l0_2.length : Int) := of_decide_eq_true zz5
                obtain ⟨ad123, e123, hx123_0, hx123_1, hx123_2, hx123_3, hx123_4⟩ := at_T62 HR0_2.out x3_2 p123 q123
                have hw123_4 := hx123_4
                have hw123_3 := hx123_3
                have hw123_2 := hx123_2
                have hw123_1 := hx123_1
                have hw123_0 := hx123_0
                obtain rfl : ad119 = ad123 := (by injection e123)
                replace hx123_0 := (HB.out.cell (World.block_lt_of_cell? w _ hx123_0)).trans hx123_0
                replace hx123_1 := (HB.out.cell (World.block_lt_of_cell? w _ hx123_1)).trans hx123_1
                replace hx123_2 := (HB.out.cell (World.block_lt_of_cell? w _ hx123_2)).trans hx123_2
                replace hx123_3 := (HB.out.cell (World.block_lt_of_cell? w _ hx123_3)).trans hx123_3
                replace hx123_4 := (HB.out.cell (World.block_lt_of_cell? w _ hx123_4)).trans hx123_4
                replace p123 := eq_true p123
                replace q123 := eq_true q123
                refine start_ (n := 22) (S := fun w' => w'.cell? ⟨gb115, 0, none⟩ = some (.int .i64 a0_0) ∧ w'.cell? ⟨gb115, 1, none⟩ = some (.int .i64 a0_1) ∧ w'.cell? ⟨gb115, 2, none⟩ = some (.slice (some ad119) l0_2.length c0_2) ∧ w'.cell? ⟨gb115, 3, none⟩ = some (.int .i64 a0_3) ∧ w'.cell? (ad119.add ((x3_2).toNat * 5)) = some (.int .i64 ((rd_T62 l0_2 x3_2).f0)) ∧ w'.cell? ⟨(ad119.add ((x3_2).toNat * 5)).block, (ad119.add ((x3_2).toNat * 5)).off + 1, none⟩ = some (.int .i64 ((rd_T62 l0_2 x3_2).f1)) ∧ w'.cell? ⟨(ad119.add ((x3_2).toNat * 5)).block, (ad119.add ((x3_2).toNat * 5)).off + 2, none⟩ = some (.int .i64 ((rd_T62 l0_2 x3_2).f2)) ∧ w'.cell? ⟨(ad119.add ((x3_2).toNat * 5)).block, (ad119.add ((x3_2).toNat * 5)).off + 3, none⟩ = some (.int .i64 ((rd_T62 l0_2 x3_2).f3)) ∧ w'.cell? ⟨(ad119.add ((x3_2).toNat * 5)).block, (ad119.add ((x3_2).toNat * 5)).off + 4, none⟩ = some (.int .i64 ((rd_T62 l0_2 x3_2).f4)) ∧ w'.cell? (ad119.add ((x4_3).toNat * 5)) = some (.int .i64 ((rd_T62 l0_2 x4_3).f0)) ∧ w'.cell? ⟨(ad119.add ((x4_3).toNat * 5)).block, (ad119.add ((x4_3).toNat * 5)).off + 1, none⟩ = some (.int .i64 ((rd_T62 l0_2 x4_3).f1)) ∧ w'.cell? ⟨(ad119.add ((x4_3).toNat * 5)).block, (ad119.add ((x4_3).toNat * 5)).off + 2, none⟩ = some (.int .i64 ((rd_T62 l0_2 x4_3).f2)) ∧ w'.cell? ⟨(ad119.add ((x4_3).toNat * 5)).block, (ad119.add ((x4_3).toNat * 5)).off + 3, none⟩ = some (.int .i64 ((rd_T62 l0_2 x4_3).f3)) ∧ w'.cell? ⟨(ad119.add ((x4_3).toNat * 5)).block, (ad119.add ((x4_3).toNat * 5)).off + 4, none⟩ = some (.int .i64 ((rd_T62 l0_2 x4_3).f4)) ∧ w'.cell? (ad119.add ((x3_2).toNat * 5)) = some (.int .i64 ((rd_T62 l0_2 x3_2).f0)) ∧ w'.cell? ⟨(ad119.add ((x3_2).toNat * 5)).block, (ad119.add ((x3_2).toNat * 5)).off + 1, none⟩ = some (.int .i64 ((rd_T62 l0_2 x3_2).f1)) ∧ w'.cell? ⟨(ad119.add ((x3_2).toNat * 5)).block, (ad119.add ((x3_2).toNat * 5)).off + 2, none⟩ = some (.int .i64 ((rd_T62 l0_2 x3_2).f2)) ∧ w'.cell? ⟨(ad119.add ((x3_2).toNat * 5)).block, (ad119.add ((x3_2).toNat * 5)).off + 3, none⟩ = some (.int .i64 ((rd_T62 l0_2 x3_2).f3)) ∧ w'.cell? ⟨(ad119.add ((x3_2).toNat * 5)).block, (ad119.add ((x3_2).toNat * 5)).off + 4, none⟩ = some (.int .i64 ((rd_T62 l0_2 x3_2).f4))) (ds := []) #[false, false, false, false, false, false, false, false, false, false, false, false, false, false, false, false, false, false, false, false, false, false] (by kernel_rfl) rfl rfl ⟨(blk_cell BK115.out 0).trans rfl, (blk_cell BK115.out 1).trans rfl, (blk_cell BK115.out 2).trans rfl, (blk_cell BK115.out 3).trans rfl, ((HB.out.cell (World.block_lt_of_cell? w _ hw121_0)).trans hw121_0), ((HB.out.cell (World.block_lt_of_cell? w _ hw121_1)).trans hw121_1), ((HB.out.cell (World.block_lt_of_cell? w _ hw121_2)).trans hw121_2), ((HB.out.cell (World.block_lt_of_cell? w _ hw121_3)).trans hw121_3), ((HB.out.cell (World.block_lt_of_cell? w _ hw121_4)).trans hw121_4), ((HB.out.cell (World.block_lt_of_cell? w _ hw122_0)).trans hw122_0), ((HB.out.cell (World.block_lt_of_cell? w _ hw122_1)).trans hw122_1), ((HB.out.cell (World.block_lt_of_cell? w _ hw122_2)).trans hw122_2), ((HB.out.cell (World.block_lt_of_cell? w _ hw122_3)).trans hw122_3), ((HB.out.cell (World.block_lt_of_cell? w _ hw122_4)).trans hw122_4), ((HB.out.cell (World.block_lt_of_cell? w _ hw123_0)).trans hw123_0), ((HB.out.cell (World.block_lt_of_cell? w _ hw123_1)).trans hw123_1), ((HB.out.cell (World.block_lt_of_cell? w _ hw123_2)).trans hw123_2), ((HB.out.cell (World.block_lt_of_cell? w _ hw123_3)).trans hw123_3), ((HB.out.cell (World.block_lt_of_cell? w _ hw123_4)).trans hw123_4)⟩ (fun hHeld => ?_); refine with_tabW spec_l25Good.tab11 spec_l25Good.bits11 (fun HT_ HW_ => ?_)
                generalize wr.drew = w29 at BK115 HB hx121_0 hx121_1 hx121_2 hx121_3 hx121_4 hx122_0 hx122_1 hx122_2 hx122_3 hx122_4 hx123_0 hx123_1 hx123_2 hx123_3 hx123_4 hHeld ⊢
                refine qp 0 47 ?_; refine qp 2 49 ?_; refine qt19 1 48 ?_; refine qp 3 50 ?_; refine qp 4 51 ?_; refine qt19 5 52 ?_; refine qp 6 53 ?_; refine qp 7 54 ?_; refine qp 8 55 ?_; refine qp 10 57 ?_; refine qp 14 61 ?_; refine qp 16 63 ?_; refine qt19 9 56 ?_; refine qp 11 58 ?_; refine qp 12 59 ?_; refine qt19 13 60 ?_; refine qt19 15 62 ?_; refine qp 17 64 ?_; refine qp 18 65 ?_; refine qt19 19 66 ?_; refine qp 20 67 ?_; refine qp 21 68 ?_
                refine done_ (done_of HT_.out (by kernel_rfl)) ?_
                try go_wp2
                go_ret
                exact ⟨zz9, zz29⟩
              rw [if_neg c28] at H
              have c28b0 := beq_eq_false_iff_ne.mpr c28
              have c28b1 := bne_iff_ne.mpr c28
              have H' := Aside0.mk H
              clear H
              try go_wp2
              refine qs2 (blk_drew BK115.out) (below_drew1 HB.out) ?_; clear BK115 HB; intro BK115 HB
              have p121 : 0 ≤ (x3_2 : Int) := of_decide_eq_true zz5
              have q121 : x3_2 < (l0_2.length : Int) := of_decide_eq_true zz5
              obtain ⟨ad121, e121, hx121_0, hx121_1, hx121_2, hx121_3, hx121_4⟩ := at_T62 HR0_2.out x3_2 p121 q121
              have hw121_4 := hx121_4
              have hw121_3 := hx121_3
              have hw121_2 := hx121_2
              have hw121_1 := hx121_1
              have hw121_0 := hx121_0
              obtain rfl : ad119 = ad121 := (by injection e121)
              replace hx121_0 := (HB.out.cell (World.block_lt_of_cell? w _ hx121_0)).trans hx121_0
              replace hx121_1 := (HB.out.cell (World.block_lt_of_cell? w _ hx121_1)).trans hx121_1
              replace hx121_2 := (HB.out.cell (World.block_lt_of_cell? w _ hx121_2)).trans hx121_2
              replace hx121_3 := (HB.out.cell (World.block_lt_of_cell? w _ hx121_3)).trans hx121_3
              replace hx121_4 := (HB.out.cell (World.block_lt_of_cell? w _ hx121_4)).trans hx121_4
              replace p121 := eq_true p121
              replace q121 := eq_true q121
              have p122 : 0 ≤ (x4_3 : Int) := of_decide_eq_true zz5
              have q122 : x4_3 < (l0_2.length : Int) := of_decide_eq_true zz5
              obtain ⟨ad122, e122, hx122_0, hx122_1, hx122_2, hx122_3, hx122_4⟩ := at_T62 HR0_2.out x4_3 p122 q122
              have hw122_4 := hx122_4
              have hw122_3 := hx122_3
              have hw122_2 := hx122_2
              have hw122_1 := hx122_1
              have hw122_0 := hx122_0
              obtain rfl : ad119 = ad122 := (by injection e122)
              replace hx122_0 := (HB.out.cell (World.block_lt_of_cell? w _ hx122_0)).trans hx122_0
              replace hx122_1 := (HB.out.cell (World.block_lt_of_cell? w _ hx122_1)).trans hx122_1
              replace hx122_2 := (HB.out.cell (World.block_lt_of_cell? w _ hx122_2)).trans hx122_2
              replace hx122_3 := (HB.out.cell (World.block_lt_of_cell? w _ hx122_3)).trans hx122_3
              replace hx122_4 := (HB.out.cell (World.block_lt_of_cell? w _ hx122_4)).trans hx122_4
              replace p122 := eq_true p122
              replace q122 := eq_true q122
              have p123 : 0 ≤ (x3_2 : Int) := of_decide_eq_true zz5
              have q123 : x3_2 < (l0_2.length : Int) := of_decide_eq_true zz5
              obtain ⟨ad123, e123, hx123_0, hx123_1, hx123_2, hx123_3, hx123_4⟩ := at_T62 HR0_2.out x3_2 p123 q123
              have hw123_4 := hx123_4
              have hw123_3 := hx123_3
              have hw123_2 := hx123_2
              have hw123_1 := hx123_1
              have hw123_0 := hx123_0
              obtain rfl : ad119 = ad123 := (by injection e123)
              replace hx123_0 := (HB.out.cell (World.block_lt_of_cell? w _ hx123_0)).trans hx123_0
              replace hx123_1 := (HB.out.cell (World.block_lt_of_cell? w _ hx123_1)).trans hx123_1
              replace hx123_2 := (HB.out.cell (World.block_lt_of_cell? w _ hx123_2)).trans hx123_2
              replace hx123_3 := (HB.out.cell (World.block_lt_of_cell? w _ hx123_3)).trans hx123_3
              replace hx123_4 := (HB.out.cell (World.block_lt_of_cell? w _ hx123_4)).trans hx123_4
              replace p123 := eq_true p123
              replace q123 := eq_true q123
              refine start_ (n := 22) (S := fun w' => w'.cell? ⟨gb115, 0, none⟩ = some (.int .i64 a0_0) ∧ w'.cell? ⟨gb115, 1, none⟩ = some (.int .i64 a0_1) ∧ w'.cell? ⟨gb115, 2, none⟩ = some (.slice (some ad119) l0_2.length c0_2) ∧ w'.cell? ⟨gb115, 3, none⟩ = some (.int .i64 a0_3) ∧ w'.cell? (ad119.add ((x3_2).toNat * 5)) = some (.int .i64 ((rd_T62 l0_2 x3_2).f0)) ∧ w'.cell? ⟨(ad119.add ((x3_2).toNat * 5)).block, (ad119.add ((x3_2).toNat * 5)).off + 1, none⟩ = some (.int .i64 ((rd_T62 l0_2 x3_2).f1)) ∧ w'.cell? ⟨(ad119.add ((x3_2).toNat * 5)).block, (ad119.add ((x3_2).toNat * 5)).off + 2, none⟩ = some (.int .i64 ((rd_T62 l0_2 x3_2).f2)) ∧ w'.cell? ⟨(ad119.add ((x3_2).toNat * 5)).block, (ad119.add ((x3_2).toNat * 5)).off + 3, none⟩ = some (.int .i64 ((rd_T62 l0_2 x3_2).f3)) ∧ w'.cell? ⟨(ad119.add ((x3_2).toNat * 5)).block, (ad119.add ((x3_2).toNat * 5)).off + 4, none⟩ = some (.int .i64 ((rd_T62 l0_2 x3_2).f4)) ∧ w'.cell? (ad119.add ((x4_3).toNat * 5)) = some (.int .i64 ((rd_T62 l0_2 x4_3).f0)) ∧ w'.cell? ⟨(ad119.add ((x4_3).toNat * 5)).block, (ad119.add ((x4_3).toNat * 5)).off + 1, none⟩ = some (.int .i64 ((rd_T62 l0_2 x4_3).f1)) ∧ w'.cell? ⟨(ad119.add ((x4_3).toNat * 5)).block, (ad119.add ((x4_3).toNat * 5)).off + 2, none⟩ = some (.int .i64 ((rd_T62 l0_2 x4_3).f2)) ∧ w'.cell? ⟨(ad119.add ((x4_3).toNat * 5)).block, (ad119.add ((x4_3).toNat * 5)).off + 3, none⟩ = some (.int .i64 ((rd_T62 l0_2 x4_3).f3)) ∧ w'.cell? ⟨(ad119.add ((x4_3).toNat * 5)).block, (ad119.add ((x4_3).toNat * 5)).off + 4, none⟩ = some (.int .i64 ((rd_T62 l0_2 x4_3).f4)) ∧ w'.cell? (ad119.add ((x3_2).toNat * 5)) = some (.int .i64 ((rd_T62 l0_2 x3_2).f0)) ∧ w'.cell? ⟨(ad119.add ((x3_2).toNat * 5)).block, (ad119.add ((x3_2).toNat * 5)).off + 1, none⟩ = some (.int .i64 ((rd_T62 l0_2 x3_2).f1)) ∧ w'.cell? ⟨(ad119.add ((x3_2).toNat * 5)).block, (ad119.add ((x3_2).toNat * 5)).off + 2, none⟩ = some (.int .i64 ((rd_T62 l0_2 x3_2).f2)) ∧ w'.cell? ⟨(ad119.add ((x3_2).toNat * 5)).block, (ad119.add ((x3_2).toNat * 5)).off + 3, none⟩ = some (.int .i64 ((rd_T62 l0_2 x3_2).f3)) ∧ w'.cell? ⟨(ad119.add ((x3_2).toNat * 5)).block, (ad119.add ((x3_2).toNat * 5)).off + 4, none⟩ = some (.int .i64 ((rd_T62 l0_2 x3_2).f4))) (ds := []) #[false, false, false, false, false, false, false, false, false, false, false, false, false, false, false, false, false, false, false, false, false, false] (by kernel_rfl) rfl rfl ⟨(blk_cell BK115.out 0).trans rfl, (blk_cell BK115.out 1).trans rfl, (blk_cell BK115.out 2).trans rfl, (blk_cell BK115.out 3).trans rfl, ((HB.out.cell (World.block_lt_of_cell? w _ hw121_0)).trans hw121_0), ((HB.out.cell (World.block_lt_of_cell? w _ hw121_1)).trans hw121_1), ((HB.out.cell (World.block_lt_of_cell? w _ hw121_2)).trans hw121_2), ((HB.out.cell (World.block_lt_of_cell? w _ hw121_3)).trans hw121_3), ((HB.out.cell (World.block_lt_of_cell? w _ hw121_4)).trans hw121_4), ((HB.out.cell (World.block_lt_of_cell? w _ hw122_0)).trans hw122_0), ((HB.out.cell (World.block_lt_of_cell? w _ hw122_1)).trans hw122_1), ((HB.out.cell (World.block_lt_of_cell? w _ hw122_2)).trans hw122_2), ((HB.out.cell (World.block_lt_of_cell? w _ hw122_3)).trans hw122_3), ((HB.out.cell (World.block_lt_of_cell? w _ hw122_4)).trans hw122_4), ((HB.out.cell (World.block_lt_of_cell? w _ hw123_0)).trans hw123_0), ((HB.out.cell (World.block_lt_of_cell? w _ hw123_1)).trans hw123_1), ((HB.out.cell (World.block_lt_of_cell? w _ hw123_2)).trans hw123_2), ((HB.out.cell (World.block_lt_of_cell? w _ hw123_3)).trans hw123_3), ((HB.out.cell (World.block_lt_of_cell? w _ hw123_4)).trans hw123_4)⟩ (fun hHeld => ?_); refine with_tabW spec_l25Good.tab11 spec_l25Good.bits11 (fun HT_ HW_ => ?_)
              generalize wr.drew = w30 at BK115 HB hx121_0 hx121_1 hx121_2 hx121_3 hx121_4 hx122_0 hx122_1 hx122_2 hx122_3 hx122_4 hx123_0 hx123_1 hx123_2 hx123_3 hx123_4 hHeld ⊢
              refine qp 0 47 ?_; refine qp 2 49 ?_; refine qt19 1 48 ?_; refine qp 3 50 ?_; refine qp 4 51 ?_; refine qt19 5 52 ?_; refine qp 6 53 ?_; refine qp 7 54 ?_; refine qp 8 55 ?_; refine qp 10 57 ?_; refine qp 14 61 ?_; refine qp 16 63 ?_; refine qt19 9 56 ?_; refine qp 11 58 ?_; refine qp 12 59 ?_; refine qt19 13 60 ?_; refine qt19 15 62 ?_; refine qp 17 64 ?_; refine qp 18 65 ?_; refine qt19 19 66 ?_; refine qp 20 67 ?_; refine qp 21 68 ?_
              refine done_ (done_of HT_.out (by kernel_rfl)) ?_
              try go_wp2
              go_roundg k3
              case measure => have := HJ1.out; have := HK2.out; have := HK3.out; omega
              case rel => exact ⟨(wrap64 (x4_3 + 1)), zz4, H', ⟨by have := HJ1.out; have := HK2.out; have := HK3.out; omega⟩, ⟨zz12⟩, ⟨zz29⟩⟩


end Go.Proofs.YtneaeaoemhghdaaDoor.G

-- Written by a program of this session (wip/pd.py), which calls the kit's print; externals' contracts by hand.
namespace Go.Proofs.YtneaeaoemhghdaaDoor.G
open Go.Proofs.YtneaeaoemhghdaaDoorQ
open Go.RowKit Go.Proofs.YtneaeaoemhghdaaDoorW.PrintWords Go.Proofs.YtneaeaoemhghdaaDoorW.PrintLast Go.Proofs.YtneaeaoemhghdaaDoorW.PrintMore
attribute [local go_sem] max2_int min2_int max_two min_two max_three min_three max_four min_four   -- for this text's walks alone
set_option linter.unusedVariables false
set_option linter.unusedSimpArgs false

section
attribute [local go_sem high] run_add_cat run_slice_cat run_slice_cat_h run_slice_cat_l run_slice_cat_all
/-! ### spec_l1Split: function 90 -/
def spec_l1Split.l0 : Nat → ByteArray → Int → List ByteArray → Int → Int → Option (List ByteArray)
  | 0, _, _, _, _, _ => none
  | k + 1, x0, x1, x5, x6, x7 => if x7 < (x0.size : Int) then (if 0 ≤ x7 then (if (bt x0 x7) = x1 then (if 0 ≤ x6 then (if x6 ≤ x7 then (if x7 ≤ (x0.size : Int) then (if x5.length < 8796093022208 then (spec_l1Split.l0 k x0 x1 (x5 ++ [subs x0 (x6 : Int).toNat (x7 : Int).toNat]) (wrap64 (x7 + 1)) (wrap64 (x7 + 1))) else (none)) else (none)) else (none)) else (none)) else (spec_l1Split.l0 k x0 x1 x5 x6 (wrap64 (x7 + 1)))) else (none)) else (if 0 ≤ x6 then (if x6 ≤ (x0.size : Int) then (if x5.length < 8796093022208 then (some (x5 ++ [subs x0 (x6 : Int).toNat x0.size])) else (none)) else (none)) else (none))
def spec_l1Split.f (k : Nat) (a0 : ByteArray) (a1 : Int) : Option (List ByteArray) := spec_l1Split.l0 k a0 a1 (([] : List ByteArray)) 0 0
set_option maxHeartbeats 8000000 in
set_option maxRecDepth 100000 in
theorem spec_l1Split.calls (k : Nat) (a0 : ByteArray) (a1 : Int) (r : List ByteArray) (w : World) (h : spec_l1Split.f k a0 a1 = some r) :
    Calls Tryd.prog 90 #[.string a0, .int .u8 a1] w fun e w' => ∃ v0_ : Value, e = .returned (v0_) ∧ Kd.R Kd.string 9 w' w.heap.size (fun _ => True) v0_ r ∧ Below w.heap.size w w' := by
  have HB := Aside0.mk (Below.refl w.heap.size w)
  have H : (spec_l1Split.l0 k a0 a1 (([] : List ByteArray)) 0 0) = some r := h
  clear h
  obtain ⟨y124, hy124⟩ : ∃ y_ : List ByteArray, y_ = (([] : List ByteArray)) := ⟨_, rfl⟩
  replace H : (spec_l1Split.l0 k a0 a1 y124 0 0) = some r := by first | (rw [hy124]; with_reducible exact H) | (have H2_ := (Option.bind_some _ _).symm.trans H; rw [hy124]; with_reducible exact H2_) | (have H2_ := (Option.bind_some _ _).symm.trans H; with_reducible exact H2_) | with_reducible exact H | (rw [hy124]; exact H) | exact H
  have Ny124 := Aside0.mk hy124
  clear hy124
  have H' := Aside0.mk H
  clear H
  go_enter Tryd.func90, Tryd.ntmps90
  go_wp2_with (first | ((with_reducible refine gate_dst (N := 8) rfl ?_); refine Kd.R_lit Kd.string _ 9 ?hg (N := 8) ?hd (xs := ([] : List ByteArray)) (inner := []) (ok := fun _ => True) (okp := fun _ => True) ?hr ?hp (fun _ hk => hk) trivial (Below.refl _ _) (Nat.le_refl _) (by simp) ?_; (case hd => rfl); (case hg => rfl); (case hr => exact zz3); (case hp => exact (Reps.none _ _)); intro v125 w3 ho4 hb hg_ hnew_; clear hg_ hnew_; (first | rw [← Ny124.out] at ho4 | (simp only [Int.reduceToNat] at ho4; rw [← Ny124.out] at ho4)); refine qs2 (Kd.R_lower ho4 (below_size zz20)) (below_step zz20 hb) ?_; clear HB; intro HO126 HB; clear hb ho4))
  go_loopg [5, 6, 7] k (fun kq v5 v6 v7 w' => ∃ (x5_1 : List ByteArray) (x6_1 : Int) (x7_1 : Int), v6 = .int .i64 x6_1 ∧ v7 = .int .i64 x7_1 ∧ Aside0 (spec_l1Split.l0 kq a0 a1 x5_1 x6_1 x7_1 = some r) ∧ Aside0 (kq ≤ k) ∧ Aside0 (Kd.R Kd.string 9 w' w.heap.size (fun _ => True) v5 x5_1) ∧ Aside0 (Below w.heap.size w w'))
  case atStart => exact ⟨(y124), (0), (0), zz4, zz4, H', ⟨Nat.le_refl _⟩, ⟨by (with_reducible repeat (first | apply Kd.R_alloc | apply Kd.R_drewN | apply Kd.R_drew)); exact HO126.out⟩, ⟨zz20⟩⟩
  case round =>
    clear H'
    try clear p2
    obtain ⟨x5_1, x6_1, x7_1, rfl, rfl, HA, HK1, HO_5, HB⟩ := hrel
    cases gk with
    | zero => exact absurd HA.out (by simp [spec_l1Split.l0])
    | succ k1 =>
      have H := HA.out
      clear HA
      simp only [spec_l1Split.l0] at H
      by_cases c5 : x7_1 < (a0.size : Int)
      rotate_left
      · rw [if_neg c5] at H
        have c5b0 := decide_eq_false c5
        clear c5
        by_cases c14 : 0 ≤ x6_1
        rotate_left
        · rw [if_neg c14] at H
          exact absurd H (by simp)
        rw [if_pos c14] at H
        have c14b0 := eq_true c14
        have c14b1 := decide_eq_true c14
        clear c14
        by_cases c15 : x6_1 ≤ (a0.size : Int)
        rotate_left
        · rw [if_neg c15] at H
          exact absurd H (by simp)
        rw [if_pos c15] at H
        have c15b0 := eq_true c15
        have c15b1 := decide_eq_true c15
        clear c15
        by_cases c16 : x5_1.length < 8796093022208
        rotate_left
        · rw [if_neg c16] at H
          exact absurd H (by simp)
        rw [if_pos c16] at H
        have LMc16 := Aside0.mk c16
        clear c16
        obtain ⟨y130, hy130⟩ : ∃ y_ : List ByteArray, y_ = (x5_1 ++ [subs a0 (x6_1 : Int).toNat a0.size]) := ⟨_, rfl⟩
        replace H : (some y130) = some r := by first | (rw [hy130]; with_reducible exact H) | (have H2_ := (Option.bind_some _ _).symm.trans H; rw [hy130]; with_reducible exact H2_) | (have H2_ := (Option.bind_some _ _).symm.trans H; with_reducible exact H2_) | with_reducible exact H | (rw [hy130]; exact H) | exact H
        have Ny130 := Aside0.mk hy130
        clear hy130
        obtain rfl := Option.some.inj H
        go_wp2_with (first | ((with_reducible refine gate_builtin (b := .append) (xs := #[.tmp 29, .tmp 33]) rfl ?_); at_builtin; refine Kd.R_append Kd.string (w0 := w) w.heap.size rfl (.tmp 29) (.tmp 33) 99 9 (.string ⟨#[]⟩) 16 rfl Tryd.underlying99 info9 rfl (by decide) (by omega) u5 x5_1 (subs a0 (x6_1 : Int).toNat a0.size) [.string (subs a0 (x6_1 : Int).toNat a0.size)] (fun _ => True) (fun _ => False) rfl rfl ?aP (fun _ hk => hk.elim) ?aF ?aO ?aB ?aS ?aL ?_; (case aP => exact rfl); (case aB => exact zz20); (case aF => exact (fun _ _ => trivial)); (case aO => exact (qr HO_5.out)); (case aS => exact (below_size zz20)); (case aL => have := LMc16.out; omega); intro v131 w17 ho hb hg hat; rw [← Ny130.out] at ho; refine qs2 (hb) (ho) ?_; clear HB HO_5; intro HB HO132; clear ho hb hg hat))
        go_ret
        exact ⟨_, zz9, by (with_reducible repeat (first | apply Kd.R_alloc | apply Kd.R_drewN | apply Kd.R_drew)); exact HO132.out, zz20⟩
      rw [if_pos c5] at H
      have c5b0 := decide_eq_true c5
      clear c5
      by_cases c6 : 0 ≤ x7_1
      rotate_left
      · rw [if_neg c6] at H
        exact absurd H (by simp)
      rw [if_pos c6] at H
      have c6b0 := decide_eq_true c6
      clear c6
      by_cases c8 : (bt a0 x7_1) = a1
      rotate_left
      · rw [if_neg c8] at H
        have c8b0 := beq_eq_false_iff_ne.mpr c8
        have c8b1 := bne_iff_ne.mpr c8
        have H' := Aside0.mk H
        clear H
        have p7 : 0 ≤ (x7_1 : Int) := of_decide_eq_true zz5
        have q7 : x7_1 < (a0.size : Int) := of_decide_eq_true zz5
        have hx7 := bt_at a0 x7_1
        replace p7 := eq_true p7
        replace q7 := eq_true q7
        go_wp2
        go_roundg k1
        case measure => have := HK1.out; omega
        case rel => exact ⟨(x5_1), (x6_1), (wrap64 (x7_1 + 1)), zz4, zz4, H', ⟨zz1⟩, ⟨by (with_reducible repeat (first | apply Kd.R_alloc | apply Kd.R_drewN | apply Kd.R_drew)); exact HO_5.out⟩, ⟨zz20⟩⟩
      rw [if_pos c8] at H
      have c8b0 := beq_iff_eq.mpr c8
      have c8b1 := bne_eq_false_iff_eq.mpr c8
      clear c8
      by_cases c9 : 0 ≤ x6_1
      rotate_left
      · rw [if_neg c9] at H
        exact absurd H (by simp)
      rw [if_pos c9] at H
      have c9b0 := eq_true c9
      have c9b1 := decide_eq_true c9
      clear c9
      by_cases c10 : x6_1 ≤ x7_1
      rotate_left
      · rw [if_neg c10] at H
        exact absurd H (by simp)
      rw [if_pos c10] at H
      have c10b0 := eq_true c10
      have c10b1 := decide_eq_true c10
      clear c10
      by_cases c11 : x7_1 ≤ (a0.size : Int)
      rotate_left
      · rw [if_neg c11] at H
        exact absurd H (by simp)
      rw [if_pos c11] at H
      have c11b0 := eq_true c11
      have c11b1 := decide_eq_true c11
      clear c11
      by_cases c12 : x5_1.length < 8796093022208
      rotate_left
      · rw [if_neg c12] at H
        exact absurd H (by simp)
      rw [if_pos c12] at H
      have LMc12 := Aside0.mk c12
      clear c12
      obtain ⟨y127, hy127⟩ : ∃ y_ : List ByteArray, y_ = (x5_1 ++ [subs a0 (x6_1 : Int).toNat (x7_1 : Int).toNat]) := ⟨_, rfl⟩
      replace H : (spec_l1Split.l0 k1 a0 a1 y127 (wrap64 (x7_1 + 1)) (wrap64 (x7_1 + 1))) = some r := by first | (rw [hy127]; with_reducible exact H) | (have H2_ := (Option.bind_some _ _).symm.trans H; rw [hy127]; with_reducible exact H2_) | (have H2_ := (Option.bind_some _ _).symm.trans H; with_reducible exact H2_) | with_reducible exact H | (rw [hy127]; exact H) | exact H
      have Ny127 := Aside0.mk hy127
      clear hy127
      have H' := Aside0.mk H
      clear H
      have p7 : 0 ≤ (x7_1 : Int) := of_decide_eq_true zz5
      have q7 : x7_1 < (a0.size : Int) := of_decide_eq_true zz5
      have hx7 := bt_at a0 x7_1
      replace p7 := eq_true p7
      replace q7 := eq_true q7
      go_wp2_with (first | ((with_reducible refine gate_builtin (b := .append) (xs := #[.tmp 20, .tmp 25]) rfl ?_); at_builtin; refine Kd.R_append Kd.string (w0 := w) w.heap.size rfl (.tmp 20) (.tmp 25) 99 9 (.string ⟨#[]⟩) 16 rfl Tryd.underlying99 info9 rfl (by decide) (by omega) u5 x5_1 (subs a0 (x6_1 : Int).toNat (x7_1 : Int).toNat) [.string (subs a0 (x6_1 : Int).toNat (x7_1 : Int).toNat)] (fun _ => True) (fun _ => False) rfl rfl ?aP (fun _ hk => hk.elim) ?aF ?aO ?aB ?aS ?aL ?_; (case aP => exact rfl); (case aB => exact zz20); (case aF => exact (fun _ _ => trivial)); (case aO => exact (qr HO_5.out)); (case aS => exact (below_size zz20)); (case aL => have := LMc12.out; omega); intro v128 w13 ho hb hg hat; rw [← Ny127.out] at ho; refine qs2 (hb) (ho) ?_; clear HB HO_5; intro HB HO129; clear ho hb hg hat))
      go_roundg k1
      case measure => have := HK1.out; omega
      case rel => exact ⟨(y127), (wrap64 (x7_1 + 1)), (wrap64 (x7_1 + 1)), zz4, zz4, H', ⟨zz1⟩, ⟨by (with_reducible repeat (first | apply Kd.R_alloc | apply Kd.R_drewN | apply Kd.R_drew)); exact HO129.out⟩, ⟨zz20⟩⟩

end

/-! ### spec_l1Num: function 52 (by hand) -/
theorem digit_str : ∀ n : Nat, n < 10 → (⟨#[48, 49, 50, 51, 52, 53, 54, 55, 56, 57]⟩ : ByteArray).extract n (n + 1) = ⟨(Lib.decDigits n).toArray⟩ := by
  intro n hn
  rw [Lib.decDigits, dif_pos hn]
  have : n = 0 ∨ n = 1 ∨ n = 2 ∨ n = 3 ∨ n = 4 ∨ n = 5 ∨ n = 6 ∨ n = 7 ∨ n = 8 ∨ n = 9 := by omega
  rcases this with rfl | rfl | rfl | rfl | rfl | rfl | rfl | rfl | rfl | rfl <;> rfl
theorem nDigits_le : ∀ k u : Nat, 1 ≤ k → u < 10 ^ k → Lib.nDigits u ≤ k := by
  intro k
  induction k with
  | zero => intro u h; omega
  | succ k ih =>
    intro u _ hu
    by_cases h : u < 10
    · rw [Lib.nDigits_small h]; omega
    rw [Lib.nDigits_big h]
    rw [Nat.pow_succ] at hu
    have : u / 10 < 10 ^ k := by omega
    have h1 : 1 ≤ k := by
      rcases Nat.eq_zero_or_pos k with rfl | h1
      · simp at this; omega
      · exact h1
    have := ih (u / 10) h1 this
    omega
theorem ret_str {a b : ByteArray} (h : a = b) : Ending.returned (.string a) = .returned (.string b) := by rw [h]
theorem ba_app (a b : List UInt8) : (⟨a.toArray⟩ : ByteArray) ++ (⟨b.toArray⟩ : ByteArray) = ⟨(a ++ b).toArray⟩ := by
  apply ByteArray.ext
  rw [ByteArray.data_append]
  simp
def bigNat (u : Nat) : Prop := u ≤ 9223372036854775807
set_option maxRecDepth 100000 in
theorem l1Num_nat : ∀ u : Nat, bigNat u → ∀ w : World,
    Calls Tryd.prog 52 #[.int .i64 (u : Int)] w fun e w' => e = .returned (.string ⟨(Lib.decDigits u).toArray⟩) ∧ ∃ m, w' = w.drewN m := by
  intro u
  induction u using Nat.strongRecOn with
  | _ u ih =>
    intro hu w
    by_cases h : u < 10
    · have hd := digit_str u h
      have HD := Lib.hid hd
      clear hd ih
      have hsl := fun w => run_slice_string (P := Tryd.prog) (w := w) 9 ⟨#[48, 49, 50, 51, 52, 53, 54, 55, 56, 57]⟩ .i64 .i64 (u : Int) ((u : Int) + 1) Tryd.underlying9 (by omega) (by omega) (by show _ ≤ ((10 : Nat) : Int); omega)
      go_enter Tryd.func52, Tryd.ntmps52
      go_wp2
      go_ret
      exact ⟨by rw [← HD.out]; rfl, 0, rfl⟩
    obtain ⟨q, hq⟩ : ∃ q : Int, (u : Int) / 10 = q := ⟨_, rfl⟩
    obtain ⟨r, hr⟩ : ∃ r : Int, (u : Int) % 10 = r := ⟨_, rfl⟩
    have ih' : ∀ w, Calls Tryd.prog 52 #[.int .i64 q] w fun e w' => e = .returned (.string ⟨(Lib.decDigits (u / 10)).toArray⟩) ∧ ∃ m, w' = w.drewN m := fun w => by
      have := ih (u / 10) (by omega) (Nat.le_trans (Nat.div_le_self _ _) hu) w
      rwa [show (((u / 10 : Nat) : Int)) = q by omega] at this
    have hd := digit_str (u % 10) (by omega)
    rw [show u % 10 = r.toNat by omega] at hd
    have HD : Hid (Lib.decDigits u = Lib.decDigits (u / 10) ++ Lib.decDigits r.toNat) := by
      unfold Hid
      have e := Lib.decDigits.eq_1 u
      rw [dif_neg h] at e
      rw [e, Lib.decDigits.eq_1 r.toNat, dif_pos (show r.toNat < 10 by omega), show u % 10 = r.toNat by omega]
    have HE := Lib.hid hd
    clear hd ih
    have hr0 : 0 ≤ r := by omega
    have hr1 : r < 10 := by omega
    have hq0 : 0 ≤ q := by omega
    have hq1 : q ≤ 922337203685477580 := by unfold bigNat at hu; omega
    have w1 : wrap64 q = q := by unfold wrap64; omega
    have w2 : IntKind.i64.wrap q = q := IntWalk.i64_in _ (by omega)
    have w3 : wrap64 (r + 1) = r + 1 := by unfold wrap64; omega
    have w4 : IntKind.i64.wrap (r + 1) = r + 1 := IntWalk.i64_in _ (by omega)
    have w5 : (r + 1).toNat = r.toNat + 1 := by omega
    have hsl := fun w => run_slice_string (P := Tryd.prog) (w := w) 9 ⟨#[48, 49, 50, 51, 52, 53, 54, 55, 56, 57]⟩ .i64 .i64 r (r + 1) Tryd.underlying9 (by omega) (by omega) (by show _ ≤ ((10 : Nat) : Int); omega)
    have HL : (Lib.decDigits (u / 10)).length ≤ 30 := by rw [Lib.decDigits_length]; exact nDigits_le 30 _ (by omega) (by unfold bigNat at hu; omega)
    have HU := Lib.hid hu
    have h1 : ¬ (u : Int) < 10 := by omega
    clear hu
    go_enter Tryd.func52, Tryd.ntmps52
    go_wp2
    go_quiet ((go_at_call 52; exact Calls.quiet_of (ih' _)))
    go_wp2_with fail
    go_ret
    exact ⟨ret_str (by rw [HD.out, HE.out]; exact ba_app _ _), nq, rfl⟩
set_option maxRecDepth 100000 in
theorem l1Num_any (a0 : Int) (h0 : -9223372036854775807 ≤ a0) (h1 : a0 ≤ 9223372036854775807) (w : World) :
    Calls Tryd.prog 52 #[.int .i64 a0] w fun e w' => e = .returned (.string ⟨(Lib.itoa a0).toArray⟩) ∧ ∃ m, w' = w.drewN m := by
  rcases (show a0 < 0 ∨ 0 ≤ a0 by omega) with h | h
  · obtain ⟨n, hn⟩ : ∃ n : Nat, -a0 = (n : Int) := ⟨(-a0).toNat, by omega⟩
    have hb : bigNat n := by unfold bigNat; omega
    have hc := l1Num_nat n hb
    have hi : Lib.itoa a0 = [45] ++ Lib.decDigits n := by unfold Lib.itoa; rw [if_pos h, show a0.natAbs = n by omega]; rfl
    have HI := Lib.hid hi
    have HL : (Lib.decDigits n).length ≤ 30 := by rw [Lib.decDigits_length]; exact nDigits_le 30 _ (by omega) (by omega)
    have w1 : wrap64 (-a0) = (n : Int) := by unfold wrap64; omega
    have h' : decide (a0 < 0) = true := decide_eq_true h
    clear hi hb h0 h1 hn h
    go_enter Tryd.func52, Tryd.ntmps52
    go_wp2_with (go_at_call 52; refine (hc _).mono ?_; rintro e w' ⟨rfl, m, rfl⟩)
    go_ret
    exact ⟨ret_str (by rw [HI.out]; exact ba_app _ _), _, rfl⟩
  · obtain ⟨n, rfl⟩ : ∃ n : Nat, a0 = (n : Int) := ⟨a0.toNat, by omega⟩
    have hi : Lib.itoa (n : Int) = Lib.decDigits n := by unfold Lib.itoa; rw [if_neg (by omega)]; simp
    rw [hi]
    exact l1Num_nat n (by unfold bigNat; omega) w
def spec_l1Num.f (a0 : Int) : Option ByteArray := if -9223372036854775807 ≤ a0 ∧ a0 ≤ 9223372036854775807 then some ⟨(Lib.itoa a0).toArray⟩ else none
theorem spec_l1Num.calls (a0 : Int) (r : ByteArray) (w : World) (h : spec_l1Num.f a0 = some r) :
    Calls Tryd.prog 52 #[.int .i64 a0] w fun e w' => e = .returned (.string r) ∧ Below w.heap.size w w' := by
  unfold spec_l1Num.f at h
  split at h
  · rename_i hb
    obtain rfl := Option.some.inj h
    refine (l1Num_any a0 hb.1 hb.2 w).mono ?_
    rintro e w' ⟨he, m, rfl⟩
    exact ⟨he, pw_below_drewN (Below.refl _ _) m⟩
  · cases h


/-! ### spec_l27Plain: function 108 -/
def spec_l27Plain.l0 : Nat → ByteArray → Int → Int → Option (Bool)
  | 0, _, _, _ => none
  | k + 1, x0, x1, x5 => if x5 < (x0.size : Int) then (if 0 ≤ x5 then ((spec_l1In.f (wrap64 (bt x0 x5)) 32 126).bind fun t133 => (if t133 = true then (if (bt x0 x5) = 35 then (some false) else (spec_l27Plain.l0 k x0 x1 (wrap64 (x5 + 1)))) else (some false))) else (none)) else (some (decide ((x0.size : Int) ≤ x1)))
def spec_l27Plain.f (k : Nat) (a0 : ByteArray) (a1 : Int) : Option (Bool) := spec_l27Plain.l0 k a0 a1 0
set_option maxHeartbeats 8000000 in
set_option maxRecDepth 100000 in
theorem spec_l27Plain.calls (k : Nat) (a0 : ByteArray) (a1 : Int) (r : Bool) (w : World) (h : spec_l27Plain.f k a0 a1 = some r) :
    Calls Tryd.prog 108 #[.string a0, .int .i64 a1] w fun e w' => e = .returned (.bool r) ∧ Drawn0 w w' := by
  have H : (spec_l27Plain.l0 k a0 a1 0) = some r := h
  clear h
  have H' := Aside0.mk H
  clear H
  go_enter Tryd.func108, Tryd.ntmps108
  go_wp2
  go_loopg [5] k (fun kq v5 w' => ∃ (x5_1 : Int), v5 = .int .i64 x5_1 ∧ Aside0 (spec_l27Plain.l0 kq a0 a1 x5_1 = some r) ∧ Aside0 (kq ≤ k) ∧ Drawn0 w w')
  case atStart => exact ⟨(0), zz4, H', ⟨Nat.le_refl _⟩, zz8⟩
  case round =>
    clear H'
    try clear c1
    try clear p2
    obtain ⟨x5_1, rfl, HA, HK1, ⟨m1, rfl⟩⟩ := hrel
    cases gk with
    | zero => exact absurd HA.out (by simp [spec_l27Plain.l0])
    | succ k1 =>
      have H := HA.out
      clear HA
      simp only [spec_l27Plain.l0] at H
      by_cases c3 : x5_1 < (a0.size : Int)
      rotate_left
      · rw [if_neg c3] at H
        have c3b0 := decide_eq_false c3
        clear c3
        obtain rfl := Option.some.inj H
        go_wp2
        go_ret
        exact ⟨zz4, zz8⟩
      rw [if_pos c3] at H
      have c3b0 := decide_eq_true c3
      clear c3
      by_cases c4 : 0 ≤ x5_1
      rotate_left
      · rw [if_neg c4] at H
        exact absurd H (by simp)
      rw [if_pos c4] at H
      have c4b0 := decide_eq_true c4
      clear c4
      replace H := Option.bind_eq_some_iff.mp H
      obtain ⟨t133, A60, H⟩ := H
      (try dsimp only at H)
      have A6 := Aside0.mk A60
      clear A60
      by_cases c7 : t133 = true
      rotate_left
      · replace c7 := Bool.eq_false_iff.mpr c7
        subst c7
        rw [if_neg (show ¬ (false = true) by decide)] at H
        obtain rfl := Option.some.inj H
        have p5 : 0 ≤ (x5_1 : Int) := of_decide_eq_true zz5
        have q5 : x5_1 < (a0.size : Int) := of_decide_eq_true zz5
        have hx5 := bt_at a0 x5_1
        replace p5 := eq_true p5
        replace q5 := eq_true q5
        go_wp2_with (first | ((with_reducible refine gate_callee (f := 42) rfl ?_); refine qcall 16 Tryd.func42 rfl #[.int .i64 (wrap64 (bt a0 x5_1)), .int .i64 32, .int .i64 126] ?_; (with_reducible refine (spec_l1In.calls (wrap64 (bt a0 x5_1)) 32 126 false _ A6.out).mono ?_); rintro e w' ⟨rfl, ⟨nd, rfl⟩⟩; refine ⟨_, rfl, ?_⟩))
        go_ret
        exact ⟨zz4, zz8⟩
      subst c7
      rw [if_pos rfl] at H
      by_cases c9 : (bt a0 x5_1) = 35
      · rw [if_pos c9] at H
        have c9b0 := beq_iff_eq.mpr c9
        have c9b1 := bne_eq_false_iff_eq.mpr c9
        clear c9
        obtain rfl := Option.some.inj H
        have p5 : 0 ≤ (x5_1 : Int) := of_decide_eq_true zz5
        have q5 : x5_1 < (a0.size : Int) := of_decide_eq_true zz5
        have hx5 := bt_at a0 x5_1
        replace p5 := eq_true p5
        replace q5 := eq_true q5
        go_wp2_with (first | ((with_reducible refine gate_callee (f := 42) rfl ?_); refine qcall 16 Tryd.func42 rfl #[.int .i64 (wrap64 (bt a0 x5_1)), .int .i64 32, .int .i64 126] ?_; (with_reducible refine (spec_l1In.calls (wrap64 (bt a0 x5_1)) 32 126 true _ A6.out).mono ?_); rintro e w' ⟨rfl, ⟨nd, rfl⟩⟩; refine ⟨_, rfl, ?_⟩; have p8 : 0 ≤ (x5_1 : Int) := of_decide_eq_true zz5; have q8 : x5_1 < (a0.size : Int) := of_decide_eq_true zz5; have hx8 := bt_at a0 x5_1; replace p8 := eq_true p8; replace q8 := eq_true q8))
        go_ret
        exact ⟨zz4, zz8⟩
      rw [if_neg c9] at H
      have c9b0 := beq_eq_false_iff_ne.mpr c9
      have c9b1 := bne_iff_ne.mpr c9
      have H' := Aside0.mk H
      clear H
      have p5 : 0 ≤ (x5_1 : Int) := of_decide_eq_true zz5
      have q5 : x5_1 < (a0.size : Int) := of_decide_eq_true zz5
      have hx5 := bt_at a0 x5_1
      replace p5 := eq_true p5
      replace q5 := eq_true q5
      go_wp2_with (first | ((with_reducible refine gate_callee (f := 42) rfl ?_); refine qcall 16 Tryd.func42 rfl #[.int .i64 (wrap64 (bt a0 x5_1)), .int .i64 32, .int .i64 126] ?_; (with_reducible refine (spec_l1In.calls (wrap64 (bt a0 x5_1)) 32 126 true _ A6.out).mono ?_); rintro e w' ⟨rfl, ⟨nd, rfl⟩⟩; refine ⟨_, rfl, ?_⟩; have p8 : 0 ≤ (x5_1 : Int) := of_decide_eq_true zz5; have q8 : x5_1 < (a0.size : Int) := of_decide_eq_true zz5; have hx8 := bt_at a0 x5_1; replace p8 := eq_true p8; replace q8 := eq_true q8))
      go_roundg k1
      case measure => have := HK1.out; omega
      case rel => exact ⟨(wrap64 (x5_1 + 1)), zz4, H', ⟨zz1⟩, zz8⟩


/-! ### spec_l1Stands: function 109 -/
def spec_l1Stands.l0 : Nat → ByteArray → Int → Int → Option (Bool)
  | 0, _, _, _ => none
  | k + 1, x0, x1, x5 => if x5 < (x0.size : Int) then (if 0 ≤ x5 then (if (bt x0 x5) = x1 then (some true) else (spec_l1Stands.l0 k x0 x1 (wrap64 (x5 + 1)))) else (none)) else (some false)
def spec_l1Stands.f (k : Nat) (a0 : ByteArray) (a1 : Int) : Option (Bool) := spec_l1Stands.l0 k a0 a1 0
set_option maxHeartbeats 8000000 in
set_option maxRecDepth 100000 in
theorem spec_l1Stands.calls (k : Nat) (a0 : ByteArray) (a1 : Int) (r : Bool) (w : World) (h : spec_l1Stands.f k a0 a1 = some r) :
    Calls Tryd.prog 109 #[.string a0, .int .u8 a1] w fun e w' => e = .returned (.bool r) ∧ Drawn0 w w' := by
  have H : (spec_l1Stands.l0 k a0 a1 0) = some r := h
  clear h
  have H' := Aside0.mk H
  clear H
  go_enter Tryd.func109, Tryd.ntmps109
  go_wp2
  go_loopg [5] k (fun kq v5 w' => ∃ (x5_1 : Int), v5 = .int .i64 x5_1 ∧ Aside0 (spec_l1Stands.l0 kq a0 a1 x5_1 = some r) ∧ Aside0 (kq ≤ k) ∧ Drawn0 w w')
  case atStart => exact ⟨(0), zz4, H', ⟨Nat.le_refl _⟩, zz8⟩
  case round =>
    clear H'
    try clear c1
    try clear p2
    obtain ⟨x5_1, rfl, HA, HK1, ⟨m1, rfl⟩⟩ := hrel
    cases gk with
    | zero => exact absurd HA.out (by simp [spec_l1Stands.l0])
    | succ k1 =>
      have H := HA.out
      clear HA
      simp only [spec_l1Stands.l0] at H
      by_cases c3 : x5_1 < (a0.size : Int)
      rotate_left
      · rw [if_neg c3] at H
        have c3b0 := decide_eq_false c3
        clear c3
        obtain rfl := Option.some.inj H
        go_wp2
        go_ret
        exact ⟨zz4, zz8⟩
      rw [if_pos c3] at H
      have c3b0 := decide_eq_true c3
      clear c3
      by_cases c4 : 0 ≤ x5_1
      rotate_left
      · rw [if_neg c4] at H
        exact absurd H (by simp)
      rw [if_pos c4] at H
      have c4b0 := decide_eq_true c4
      clear c4
      by_cases c6 : (bt a0 x5_1) = a1
      · rw [if_pos c6] at H
        have c6b0 := beq_iff_eq.mpr c6
        have c6b1 := bne_eq_false_iff_eq.mpr c6
        clear c6
        obtain rfl := Option.some.inj H
        have p5 : 0 ≤ (x5_1 : Int) := of_decide_eq_true zz5
        have q5 : x5_1 < (a0.size : Int) := of_decide_eq_true zz5
        have hx5 := bt_at a0 x5_1
        replace p5 := eq_true p5
        replace q5 := eq_true q5
        go_wp2
        go_ret
        exact ⟨zz4, zz8⟩
      rw [if_neg c6] at H
      have c6b0 := beq_eq_false_iff_ne.mpr c6
      have c6b1 := bne_iff_ne.mpr c6
      have H' := Aside0.mk H
      clear H
      have p5 : 0 ≤ (x5_1 : Int) := of_decide_eq_true zz5
      have q5 : x5_1 < (a0.size : Int) := of_decide_eq_true zz5
      have hx5 := bt_at a0 x5_1
      replace p5 := eq_true p5
      replace q5 := eq_true q5
      go_wp2
      go_roundg k1
      case measure => have := HK1.out; omega
      case rel => exact ⟨(wrap64 (x5_1 + 1)), zz4, H', ⟨zz1⟩, zz8⟩


/-! ### spec_l27Good: function 97 -/
def spec_l27Good.f (k : Nat) (a0_0 : ByteArray) (a0_1 : ByteArray) : Option (Bool) := if a0_0.toList = ([] : List UInt8) then (some false) else ((spec_l27Plain.f k a0_0 160).bind fun t135 => (if t135 = true then ((spec_l1Stands.f k a0_0 64).bind fun t136 => (if t136 = true then (some false) else ((spec_l27Plain.f k a0_1 200).bind fun t137 => (some t137)))) else (some false)))
set_option maxHeartbeats 8000000 in
set_option maxRecDepth 100000 in
theorem spec_l27Good.calls (k : Nat) (a0_0 : ByteArray) (a0_1 : ByteArray) (r : Bool) (w : World) (h : spec_l27Good.f k a0_0 a0_1 = some r) :
    Calls Tryd.prog 97 #[.agg #[.string a0_0, .string a0_1]] w fun e w' => e = .returned (.bool r) ∧ Below w.heap.size w w' := by
  have hu127 := Tryd.underlying127
  have HB := Aside0.mk (Below.refl w.heap.size w)
  unfold spec_l27Good.f at h
  have H := h
  clear h
  by_cases c2 : a0_0.toList = ([] : List UInt8)
  · rw [if_pos c2] at H
    have c2b0 := beq_iff_eq.mpr c2
    have c2b1 := bne_eq_false_iff_eq.mpr c2
    clear c2
    obtain rfl := Option.some.inj H
    go_enter Tryd.func97, Tryd.ntmps97
    go_wp2_with (first | ((with_reducible refine gate_dst (N := 1) rfl ?_); refine qbox (N := 1) (cs := #[.string a0_0, .string a0_1]) (t := 127) ?_; intro gb134 hg w3 hbox hb; refine qs4 (below_step zz20 hb) (hbox) ((zz87 : w.heap.size ≤ gb134)) ((zz87 : w.heap.size ≤ gb134)) ?_; clear HB; intro HB BK134 GW134 GE134; clear hb hbox hg; obtain ⟨hcz4_0, hcz4_1, hfz4_0, hfz4_1⟩ := qc2 BK134.out))
    go_ret
    exact ⟨zz9, zz43⟩
  rw [if_neg c2] at H
  have c2b0 := beq_eq_false_iff_ne.mpr c2
  have c2b1 := bne_iff_ne.mpr c2
  replace H := Option.bind_eq_some_iff.mp H
  obtain ⟨t135, A50, H⟩ := H
  (try dsimp only at H)
  have A5 := Aside0.mk A50
  clear A50
  by_cases c6 : t135 = true
  rotate_left
  · replace c6 := Bool.eq_false_iff.mpr c6
    subst c6
    rw [if_neg (show ¬ (false = true) by decide)] at H
    obtain rfl := Option.some.inj H
    go_enter Tryd.func97, Tryd.ntmps97
    go_wp2_with (first | ((with_reducible refine gate_dst (N := 1) rfl ?_); refine qbox (N := 1) (cs := #[.string a0_0, .string a0_1]) (t := 127) ?_; intro gb134 hg w14 hbox hb; refine qs4 (below_step zz20 hb) (hbox) ((zz87 : w.heap.size ≤ gb134)) ((zz87 : w.heap.size ≤ gb134)) ?_; clear HB; intro HB BK134 GW134 GE134; clear hb hbox hg; obtain ⟨hcz15_0, hcz15_1, hfz15_0, hfz15_1⟩ := qc2 BK134.out) | (go_at_call 108; (with_reducible refine (spec_l27Plain.calls k a0_0 160 false _ A5.out).mono ?_); rintro e w' ⟨rfl, ⟨nd, rfl⟩⟩))
    go_ret
    exact ⟨zz9, zz43⟩
  subst c6
  rw [if_pos rfl] at H
  replace H := Option.bind_eq_some_iff.mp H
  obtain ⟨t136, A70, H⟩ := H
  (try dsimp only at H)
  have A7 := Aside0.mk A70
  clear A70
  by_cases c8 : t136 = true
  · subst c8
    rw [if_pos rfl] at H
    obtain rfl := Option.some.inj H
    go_enter Tryd.func97, Tryd.ntmps97
    go_wp2_with (first | ((with_reducible refine gate_dst (N := 1) rfl ?_); refine qbox (N := 1) (cs := #[.string a0_0, .string a0_1]) (t := 127) ?_; intro gb134 hg w9 hbox hb; refine qs4 (below_step zz20 hb) (hbox) ((zz87 : w.heap.size ≤ gb134)) ((zz87 : w.heap.size ≤ gb134)) ?_; clear HB; intro HB BK134 GW134 GE134; clear hb hbox hg; obtain ⟨hcz10_0, hcz10_1, hfz10_0, hfz10_1⟩ := qc2 BK134.out) | (go_at_call 108; (with_reducible refine (spec_l27Plain.calls k a0_0 160 true _ A5.out).mono ?_); rintro e w' ⟨rfl, ⟨nd, rfl⟩⟩) | (go_at_call 109; (with_reducible refine (spec_l1Stands.calls k a0_0 64 true _ A7.out).mono ?_); rintro e w' ⟨rfl, ⟨nd, rfl⟩⟩))
    go_ret
    exact ⟨zz9, zz43⟩
  replace c8 := Bool.eq_false_iff.mpr c8
  subst c8
  rw [if_neg (show ¬ (false = true) by decide)] at H
  replace H := Option.bind_eq_some_iff.mp H
  obtain ⟨t137, A110, H⟩ := H
  replace H : (some t137) = some r := H
  have A11 := Aside0.mk A110
  clear A110
  obtain rfl := Option.some.inj H
  go_enter Tryd.func97, Tryd.ntmps97
  go_wp2_with (first | ((with_reducible refine gate_dst (N := 1) rfl ?_); refine qbox (N := 1) (cs := #[.string a0_0, .string a0_1]) (t := 127) ?_; intro gb134 hg w12 hbox hb; refine qs4 (below_step zz20 hb) (hbox) ((zz87 : w.heap.size ≤ gb134)) ((zz87 : w.heap.size ≤ gb134)) ?_; clear HB; intro HB BK134 GW134 GE134; clear hb hbox hg; obtain ⟨hcz13_0, hcz13_1, hfz13_0, hfz13_1⟩ := qc2 BK134.out) | (go_at_call 108; (with_reducible refine (spec_l27Plain.calls k a0_0 160 true _ A5.out).mono ?_); rintro e w' ⟨rfl, ⟨nd, rfl⟩⟩) | (go_at_call 109; (with_reducible refine (spec_l1Stands.calls k a0_0 64 false _ A7.out).mono ?_); rintro e w' ⟨rfl, ⟨nd, rfl⟩⟩) | (go_at_call 108; (with_reducible refine (spec_l27Plain.calls k a0_1 200 t137 _ A11.out).mono ?_); rintro e w' ⟨rfl, ⟨nd, rfl⟩⟩))
  go_ret
  exact ⟨zz9, zz43⟩


/-! ### spec_l1Sum: function 117 -/
def spec_l1Sum.l0 : Nat → ByteArray → Int → Int → Option (Int)
  | 0, _, _, _ => none
  | k + 1, x0, x3, x4 => if x4 < (x0.size : Int) then (if 0 ≤ x4 then (spec_l1Sum.l0 k x0 (Int.tmod (wrap64 ((wrap64 ((wrap64 (41 * x3)) + (wrap64 (bt x0 x4)))) + 1)) 999979) (wrap64 (x4 + 1))) else (none)) else (some x3)
def spec_l1Sum.f (k : Nat) (a0 : ByteArray) : Option (Int) := spec_l1Sum.l0 k a0 7 0
set_option maxHeartbeats 8000000 in
set_option maxRecDepth 100000 in
theorem spec_l1Sum.calls (k : Nat) (a0 : ByteArray) (r : Int) (w : World) (h : spec_l1Sum.f k a0 = some r) :
    Calls Tryd.prog 117 #[.string a0] w fun e w' => e = .returned (.int .i64 r) ∧ Drawn0 w w' := by
  have H : (spec_l1Sum.l0 k a0 7 0) = some r := h
  clear h
  have H' := Aside0.mk H
  clear H
  go_enter Tryd.func117, Tryd.ntmps117
  go_wp2
  go_loopg [3, 4] k (fun kq v3 v4 w' => ∃ (x3_1 : Int) (x4_1 : Int), v3 = .int .i64 x3_1 ∧ v4 = .int .i64 x4_1 ∧ Aside0 (spec_l1Sum.l0 kq a0 x3_1 x4_1 = some r) ∧ Aside0 (kq ≤ k) ∧ Drawn0 w w')
  case atStart => exact ⟨(7), (0), zz4, zz4, H', ⟨Nat.le_refl _⟩, zz8⟩
  case round =>
    clear H'
    try clear c1
    obtain ⟨x3_1, x4_1, rfl, rfl, HA, HK1, ⟨m1, rfl⟩⟩ := hrel
    cases gk with
    | zero => exact absurd HA.out (by simp [spec_l1Sum.l0])
    | succ k1 =>
      have H := HA.out
      clear HA
      simp only [spec_l1Sum.l0] at H
      by_cases c2 : x4_1 < (a0.size : Int)
      rotate_left
      · rw [if_neg c2] at H
        have c2b0 := decide_eq_false c2
        clear c2
        obtain rfl := Option.some.inj H
        go_wp2
        go_ret
        exact ⟨zz4, zz8⟩
      rw [if_pos c2] at H
      have c2b0 := decide_eq_true c2
      clear c2
      by_cases c3 : 0 ≤ x4_1
      rotate_left
      · rw [if_neg c3] at H
        exact absurd H (by simp)
      rw [if_pos c3] at H
      have c3b0 := decide_eq_true c3
      clear c3
      have H' := Aside0.mk H
      clear H
      have p4 : 0 ≤ (x4_1 : Int) := of_decide_eq_true zz5
      have q4 : x4_1 < (a0.size : Int) := of_decide_eq_true zz5
      have hx4 := bt_at a0 x4_1
      replace p4 := eq_true p4
      replace q4 := eq_true q4
      go_wp2
      go_roundg k1
      case measure => have := HK1.out; omega
      case rel => exact ⟨(Int.tmod (wrap64 ((wrap64 ((wrap64 (41 * x3_1)) + (wrap64 (bt a0 x4_1)))) + 1)) 999979), (wrap64 (x4_1 + 1)), zz4, zz4, H', ⟨zz1⟩, zz8⟩


section
attribute [local go_sem high] run_add_cat run_slice_cat run_slice_cat_h run_slice_cat_l run_slice_cat_all
/-! ### spec_l1Seal: function 110 -/
def spec_l1Seal.f (k : Nat) (a0 : ByteArray) : Option (ByteArray) := if a0.size + 1 ≤ 9223372036854775807 then ((spec_l1Sum.f k a0).bind fun t138 => ((spec_l1Num.f t138).bind fun t139 => (if (cat a0 (⟨#[35]⟩ : ByteArray)).size + t139.size ≤ 9223372036854775807 then (some (cat (cat a0 (⟨#[35]⟩ : ByteArray)) t139)) else (none)))) else (none)
set_option maxHeartbeats 8000000 in
set_option maxRecDepth 100000 in
theorem spec_l1Seal.calls (k : Nat) (a0 : ByteArray) (r : ByteArray) (w : World) (h : spec_l1Seal.f k a0 = some r) :
    Calls Tryd.prog 110 #[.string a0] w fun e w' => e = .returned (.string r) ∧ Below w.heap.size w w' := by
  have HB := Aside0.mk (Below.refl w.heap.size w)
  unfold spec_l1Seal.f at h
  have H := h
  clear h
  by_cases c2 : a0.size + 1 ≤ 9223372036854775807
  rotate_left
  · rw [if_neg c2] at H
    exact absurd H (by simp)
  rw [if_pos c2] at H
  have c2b0 := eq_true c2
  have c2b1 := decide_eq_true c2
  try have c2b2 := eq_false (Nat.not_lt.2 c2)
  clear c2
  replace H := Option.bind_eq_some_iff.mp H
  obtain ⟨t138, A30, H⟩ := H
  (try dsimp only at H)
  have A3 := Aside0.mk A30
  clear A30
  replace H := Option.bind_eq_some_iff.mp H
  obtain ⟨t139, A40, H⟩ := H
  (try dsimp only at H)
  have A4 := Aside0.mk A40
  clear A40
  by_cases c5 : (cat a0 (⟨#[35]⟩ : ByteArray)).size + t139.size ≤ 9223372036854775807
  rotate_left
  · rw [if_neg c5] at H
    exact absurd H (by simp)
  rw [if_pos c5] at H
  have c5b0 := eq_true c5
  have c5b1 := decide_eq_true c5
  try have c5b2 := eq_false (Nat.not_lt.2 c5)
  clear c5
  obtain rfl := Option.some.inj H
  go_enter Tryd.func110, Tryd.ntmps110
  go_wp2_with (first | ((with_reducible refine gate_callee (f := 117) rfl ?_); refine qcall 6 Tryd.func117 rfl #[.string a0] ?_; (with_reducible refine (spec_l1Sum.calls k a0 t138 _ A3.out).mono ?_); rintro e w' ⟨rfl, ⟨nd, rfl⟩⟩; refine ⟨_, rfl, ?_⟩) | ((with_reducible refine gate_callee (f := 52) rfl ?_); refine qcall 7 Tryd.func52 rfl #[.int .i64 t138] ?_; (with_reducible refine (spec_l1Num.calls t138 t139 _ A4.out).mono ?_); rintro e w6 ⟨rfl, hb⟩; refine ⟨_, rfl, ?_⟩; refine qs1 (below_step zz20 hb) ?_; clear HB; intro HB; (try clear hb); (try clear hb2); (try clear hk); (try clear hi)))
  go_ret
  exact ⟨zz9, zz20⟩

end

end Go.Proofs.YtneaeaoemhghdaaDoor.G

-- Written by a program of this session (wip/pd.py), which calls the kit's print; externals' contracts by hand.
namespace Go.Proofs.YtneaeaoemhghdaaDoor.G
open Go.Proofs.YtneaeaoemhghdaaDoorQ
open Go.RowKit Go.Proofs.YtneaeaoemhghdaaDoorW.PrintWords Go.Proofs.YtneaeaoemhghdaaDoorW.PrintLast Go.Proofs.YtneaeaoemhghdaaDoorW.PrintMore
attribute [local go_sem] max2_int min2_int max_two min_two max_three min_three max_four min_four   -- for this text's walks alone
set_option linter.unusedVariables false
set_option linter.unusedSimpArgs false

section
attribute [local go_sem high] run_add_cat run_slice_cat run_slice_cat_h run_slice_cat_l run_slice_cat_all
/-! ### spec_l27Line: function 98 -/
def spec_l27Line.f (k : Nat) (a0 : Int) (a1_0 : ByteArray) (a1_1 : ByteArray) : Option (ByteArray) := (spec_l1Num.f a0).bind fun t141 => (if t141.size + 1 ≤ 9223372036854775807 then (if (cat t141 (⟨#[32]⟩ : ByteArray)).size + a1_0.size ≤ 9223372036854775807 then (if (cat (cat t141 (⟨#[32]⟩ : ByteArray)) a1_0).size + 1 ≤ 9223372036854775807 then (if (cat (cat (cat t141 (⟨#[32]⟩ : ByteArray)) a1_0) (⟨#[64]⟩ : ByteArray)).size + a1_1.size ≤ 9223372036854775807 then ((spec_l1Seal.f k (cat (cat (cat (cat t141 (⟨#[32]⟩ : ByteArray)) a1_0) (⟨#[64]⟩ : ByteArray)) a1_1)).bind fun t142 => (if t142.size + 1 ≤ 9223372036854775807 then (some (cat t142 (⟨#[10]⟩ : ByteArray))) else (none))) else (none)) else (none)) else (none)) else (none))
def spec_l27Line.T1 : Bool × List (List Nat × List Nat) := (true, [([], []), ([0], [0]), ([1], [1]), ([], []), ([3], [3]), ([2, 4], [2, 4]), ([5], [5]), ([], []), ([7], [7]), ([6, 8], [6, 8]), ([9, 1], [9]), ([10], [10]), ([11, 10, 0, 1, 2, 3, 4, 5, 6, 7, 8, 9, 10, 11], [11])])
def spec_l27Line.B1 : List Nat := [0, 1, 3, 0, 8, 31, 63, 0, 128, 511, 1023, 2047, 4095]
theorem spec_l27Line.tab1 : rtab .any (opsOf Tryd.f98 1) = spec_l27Line.T1 := by kernel_rfl
theorem spec_l27Line.bits1 : waitsOk spec_l27Line.T1.2 spec_l27Line.B1 = true := by kernel_rfl
set_option maxHeartbeats 8000000 in
set_option maxRecDepth 100000 in
theorem spec_l27Line.calls (k : Nat) (a0 : Int) (a1_0 : ByteArray) (a1_1 : ByteArray) (r : ByteArray) (w : World) (h : spec_l27Line.f k a0 a1_0 a1_1 = some r) :
    Calls Tryd.prog 98 #[.int .i64 a0, .agg #[.string a1_0, .string a1_1]] w fun e w' => e = .returned (.string r) ∧ Below w.heap.size w w' := by
  have hu127 := Tryd.underlying127
  have HB := Aside0.mk (Below.refl w.heap.size w)
  unfold spec_l27Line.f at h
  have H := h
  clear h
  replace H := Option.bind_eq_some_iff.mp H
  obtain ⟨t141, A30, H⟩ := H
  (try dsimp only at H)
  have A3 := Aside0.mk A30
  clear A30
  by_cases c4 : t141.size + 1 ≤ 9223372036854775807
  rotate_left
  · rw [if_neg c4] at H
    exact absurd H (by simp)
  rw [if_pos c4] at H
  have c4b0 := eq_true c4
  have c4b1 := decide_eq_true c4
  try have c4b2 := eq_false (Nat.not_lt.2 c4)
  clear c4
  by_cases c5 : (cat t141 (⟨#[32]⟩ : ByteArray)).size + a1_0.size ≤ 9223372036854775807
  rotate_left
  · rw [if_neg c5] at H
    exact absurd H (by simp)
  rw [if_pos c5] at H
  have c5b0 := eq_true c5
  have c5b1 := decide_eq_true c5
  try have c5b2 := eq_false (Nat.not_lt.2 c5)
  clear c5
  by_cases c6 : (cat (cat t141 (⟨#[32]⟩ : ByteArray)) a1_0).size + 1 ≤ 9223372036854775807
  rotate_left
  · rw [if_neg c6] at H
    exact absurd H (by simp)
  rw [if_pos c6] at H
  have c6b0 := eq_true c6
  have c6b1 := decide_eq_true c6
  try have c6b2 := eq_false (Nat.not_lt.2 c6)
  clear c6
  by_cases c7 : (cat (cat (cat t141 (⟨#[32]⟩ : ByteArray)) a1_0) (⟨#[64]⟩ : ByteArray)).size + a1_1.size ≤ 9223372036854775807
  rotate_left
  · rw [if_neg c7] at H
    exact absurd H (by simp)
  rw [if_pos c7] at H
  have c7b0 := eq_true c7
  have c7b1 := decide_eq_true c7
  try have c7b2 := eq_false (Nat.not_lt.2 c7)
  clear c7
  replace H := Option.bind_eq_some_iff.mp H
  obtain ⟨t142, A80, H⟩ := H
  (try dsimp only at H)
  have A8 := Aside0.mk A80
  clear A80
  by_cases c9 : t142.size + 1 ≤ 9223372036854775807
  rotate_left
  · rw [if_neg c9] at H
    exact absurd H (by simp)
  rw [if_pos c9] at H
  have c9b0 := eq_true c9
  have c9b1 := decide_eq_true c9
  try have c9b2 := eq_false (Nat.not_lt.2 c9)
  clear c9
  obtain rfl := Option.some.inj H
  go_enter Tryd.func98, Tryd.ntmps98
  try go_wp2_with (first | ((with_reducible refine gate_dst (N := 3) rfl ?_); refine qbox (N := 3) (cs := #[.string a1_0, .string a1_1]) (t := 127) ?_; intro gb140 hg w10 hbox hb; refine qs4 (below_step zz20 hb) (hbox) ((zz87 : w.heap.size ≤ gb140)) ((zz87 : w.heap.size ≤ gb140)) ?_; clear HB; intro HB BK140 GW140 GE140; clear hb hbox hg))
  refine qs2 (blk_drew BK140.out) (below_drew1 HB.out) ?_; clear BK140 HB; intro BK140 HB
  refine start_ (n := 13) (S := fun w' => w'.cell? ⟨gb140, 0, none⟩ = some (.string a1_0) ∧ w'.cell? ⟨gb140, 1, none⟩ = some (.string a1_1)) (ds := []) #[false, false, false, false, false, false, false, false, false, false, false, false, false] (by kernel_rfl) rfl rfl ⟨(blk_cell BK140.out 0).trans rfl, (blk_cell BK140.out 1).trans rfl⟩ (fun hHeld => ?_); refine with_tabW spec_l27Line.tab1 spec_l27Line.bits1 (fun HT_ HW_ => ?_)
  generalize w10.drew = w11 at BK140 HB hHeld ⊢
  refine qp 0 5 ?_; refine qp 3 8 ?_; refine qp 7 12 ?_; refine qt2 4 9 ?_; refine qt2 8 13 ?_
  refine one_ (i := 1) (N := some 6) #[true, true, false, true, true, false, false, true, true, false, false, false, false] rfl rfl (one_of HT_.out (by kernel_rfl)) (by decide) (fun K hK => ?_)
  refine goes_ Tryd.func52 (by kernel_rfl) rfl #[.int .i64 a0] (by rfl) rfl rfl zz21 ?_
  with_reducible refine (spec_l1Num.calls a0 t141 _ A3.out).mono ?_
  rintro e w12 ⟨rfl, hb⟩
  refine ⟨_, rfl, ?_⟩
  refine qs2 (blk_below (qb BK140.out) hb) (below_step zz47 hb) ?_; clear BK140 HB; intro BK140 HB
  (try clear hb)
  (try clear hb2)
  (try clear hk)
  (try clear hi)
  refine hK.out _ _ ⟨(blk_cell BK140.out 0).trans rfl, (blk_cell BK140.out 1).trans rfl⟩ (fun hHeld => ?_)
  clear hK K
  refine norm_ (a' := ?_) ?_ ?_
  rotate_left
  · show Act.put _ (some 6) _ = _
    simp only [Act.put, List.setIfInBounds_toArray, List.set_cons_zero, List.set_cons_succ, i64_w, i32_w]
    rfl
  refine qp 2 7 ?_; refine qp 5 10 ?_; refine qp 6 11 ?_; refine qp 9 14 ?_
  refine one_ (i := 10) (N := some 15) #[true, true, true, true, true, true, true, true, true, true, true, false, false] rfl rfl (one_of HT_.out (by kernel_rfl)) (by decide) (fun K hK => ?_)
  refine goes_ Tryd.func110 (by kernel_rfl) rfl #[.string (cat (cat (cat (cat t141 (⟨#[32]⟩ : ByteArray)) a1_0) (⟨#[64]⟩ : ByteArray)) a1_1)] (by rfl) rfl rfl zz21 ?_
  with_reducible refine (spec_l1Seal.calls k (cat (cat (cat (cat t141 (⟨#[32]⟩ : ByteArray)) a1_0) (⟨#[64]⟩ : ByteArray)) a1_1) t142 _ A8.out).mono ?_
  rintro e w13 ⟨rfl, hb⟩
  refine ⟨_, rfl, ?_⟩
  refine qs2 (blk_below (qb BK140.out) hb) (below_step zz47 hb) ?_; clear BK140 HB; intro BK140 HB
  (try clear hb)
  (try clear hb2)
  (try clear hk)
  (try clear hi)
  refine hK.out _ _ ⟨(blk_cell BK140.out 0).trans rfl, (blk_cell BK140.out 1).trans rfl⟩ (fun hHeld => ?_)
  clear hK K
  refine norm_ (a' := ?_) ?_ ?_
  rotate_left
  · show Act.put _ (some 15) _ = _
    simp only [Act.put, List.setIfInBounds_toArray, List.set_cons_zero, List.set_cons_succ, i64_w, i32_w]
    rfl
  refine qp 11 16 ?_; refine qp 12 4 ?_
  refine done_ (done_of HT_.out (by kernel_rfl)) ?_
  try go_wp2
  go_ret
  exact ⟨zz9, zz47⟩

end

section
attribute [local go_sem high] run_add_cat run_slice_cat run_slice_cat_h run_slice_cat_l run_slice_cat_all
/-! ### spec_l27Read: function 91 -/
def spec_l27Read.j0 : Nat → ByteArray → Int → ByteArray → ByteArray → Bool → Option (ByteArray × ByteArray × Bool)
  | 0, _, _, _, _, _ => none
  | k + 1, x0, x1, x6, x7, x30 => if x30 = true then (some ((⟨#[]⟩ : ByteArray), (⟨#[]⟩ : ByteArray), false)) else (if 0 ≤ (x6.size : Int) then (if (x6.size : Int) ≤ (x7.size : Int) then ((spec_l1Split.f k (subs x7 x6.size x7.size) 64).bind fun t149 => (if 0 < (t149.length : Int) then (if ((rdOf ByteArray.empty t149 0).size : Int) = ((subs x7 x6.size x7.size).size : Int) then (some ((⟨#[]⟩ : ByteArray), (⟨#[]⟩ : ByteArray), false)) else (if 0 ≤ (wrap64 (((rdOf ByteArray.empty t149 0).size : Int) + 1)) then (if (wrap64 (((rdOf ByteArray.empty t149 0).size : Int) + 1)) ≤ ((subs x7 x6.size x7.size).size : Int) then ((spec_l27Good.f k (rdOf ByteArray.empty t149 0) (subs (subs x7 x6.size x7.size) ((wrap64 (((rdOf ByteArray.empty t149 0).size : Int) + 1)) : Int).toNat (subs x7 x6.size x7.size).size)).bind fun t154 => (if t154 = true then ((spec_l27Line.f k x1 (rdOf ByteArray.empty t149 0) (subs (subs x7 x6.size x7.size) ((wrap64 (((rdOf ByteArray.empty t149 0).size : Int) + 1)) : Int).toNat (subs x7 x6.size x7.size).size)).bind fun t155 => (if x0.size + 1 ≤ 9223372036854775807 then (some (rdOf ByteArray.empty t149 0, subs (subs x7 x6.size x7.size) ((wrap64 (((rdOf ByteArray.empty t149 0).size : Int) + 1)) : Int).toNat (subs x7 x6.size x7.size).size, (t155.toList == (cat x0 (⟨#[10]⟩ : ByteArray)).toList))) else (none))) else (some (rdOf ByteArray.empty t149 0, subs (subs x7 x6.size x7.size) ((wrap64 (((rdOf ByteArray.empty t149 0).size : Int) + 1)) : Int).toNat (subs x7 x6.size x7.size).size, false)))) else (none)) else (none))) else (none))) else (none)) else (none))
def spec_l27Read.f (k : Nat) (a0 : ByteArray) (a1 : Int) : Option (ByteArray × ByteArray × Bool) := (spec_l1Num.f a1).bind fun t144 => (if t144.size + 1 ≤ 9223372036854775807 then ((spec_l1Split.f k a0 35).bind fun t145 => (if 0 < (t145.length : Int) then (if ((rdOf ByteArray.empty t145 0).size : Int) < ((cat t144 (⟨#[32]⟩ : ByteArray)).size : Int) then (spec_l27Read.j0 k a0 a1 (cat t144 (⟨#[32]⟩ : ByteArray)) (rdOf ByteArray.empty t145 0) true) else (if 0 ≤ ((cat t144 (⟨#[32]⟩ : ByteArray)).size : Int) then (if ((cat t144 (⟨#[32]⟩ : ByteArray)).size : Int) ≤ ((rdOf ByteArray.empty t145 0).size : Int) then (spec_l27Read.j0 k a0 a1 (cat t144 (⟨#[32]⟩ : ByteArray)) (rdOf ByteArray.empty t145 0) ((subs (rdOf ByteArray.empty t145 0) 0 (cat t144 (⟨#[32]⟩ : ByteArray)).size).toList != (cat t144 (⟨#[32]⟩ : ByteArray)).toList)) else (none)) else (none))) else (none))) else (none))
def spec_l27Read.T10 : Bool × List (List Nat × List Nat) := (true, [([], []), ([], []), ([1], [1]), ([2, 2], [2]), ([3], [3]), ([3], [3]), ([4, 5, 3, 3], [3, 4, 5]), ([3], [3]), ([7, 3], [3, 7]), ([6, 8, 3], [3, 6, 8]), ([3, 9], [3, 9]), ([0, 6, 0], [0]), ([10, 11, 0, 1, 2, 3, 4, 5, 6, 7, 8, 9, 10, 11], [10])])
def spec_l27Read.B10 : List Nat := [0, 0, 2, 6, 14, 14, 62, 14, 142, 510, 1022, 127, 4095]
theorem spec_l27Read.tab10 : rtab .any (opsOf Tryd.f91 10) = spec_l27Read.T10 := by kernel_rfl
theorem spec_l27Read.bits10 : waitsOk spec_l27Read.T10.2 spec_l27Read.B10 = true := by kernel_rfl
set_option maxHeartbeats 8000000 in
set_option maxRecDepth 100000 in
theorem spec_l27Read.calls (k : Nat) (a0 : ByteArray) (a1 : Int) (r1 : ByteArray) (r2 : ByteArray) (r3 : Bool) (w : World) (h : spec_l27Read.f k a0 a1 = some (r1, r2, r3)) :
    Calls Tryd.prog 91 #[.string a0, .int .i64 a1] w fun e w' => e = .returned (.tuple #[.agg #[.string r1, .string r2], .bool r3]) ∧ Below w.heap.size w w' := by
  have hu127 := Tryd.underlying127
  have HB := Aside0.mk (Below.refl w.heap.size w)
  unfold spec_l27Read.f at h
  have H := h
  clear h
  replace H := Option.bind_eq_some_iff.mp H
  obtain ⟨t144, A30, H⟩ := H
  (try dsimp only at H)
  have A3 := Aside0.mk A30
  clear A30
  by_cases c4 : t144.size + 1 ≤ 9223372036854775807
  rotate_left
  · rw [if_neg c4] at H
    exact absurd H (by simp)
  rw [if_pos c4] at H
  have c4b0 := eq_true c4
  have c4b1 := decide_eq_true c4
  try have c4b2 := eq_false (Nat.not_lt.2 c4)
  clear c4
  replace H := Option.bind_eq_some_iff.mp H
  obtain ⟨t145, A50, H⟩ := H
  (try dsimp only at H)
  have A5 := Aside0.mk A50
  clear A50
  by_cases c6 : 0 < (t145.length : Int)
  rotate_left
  · rw [if_neg c6] at H
    exact absurd H (by simp)
  rw [if_pos c6] at H
  have c6b0 := decide_eq_true c6
  have c6b1 : decide (0 < t145.length) = true := decide_eq_true (by omega)
  clear c6
  have HC7 := Aside0.mk H
  clear H
  go_enter Tryd.func91, Tryd.ntmps91
  go_upto_region 3 with (first | ((with_reducible refine gate_dst (N := 4) rfl ?_); (try (refine gate_guard (by rfl) ?_; dsimp only)); refine qbox (N := 4) (cs := #[.string (⟨#[]⟩ : ByteArray), .string (⟨#[]⟩ : ByteArray)]) (t := 127) ?_; intro gb143 hg w8 hbox hb; refine qs4 (below_step zz20 hb) (hbox) ((zz87 : w.heap.size ≤ gb143)) ((zz87 : w.heap.size ≤ gb143)) ?_; clear HB; intro HB BK143 GW143 GE143; clear hb hbox hg) | ((with_reducible refine gate_callee (f := 52) rfl ?_); refine qcall 12 Tryd.func52 rfl #[.int .i64 a1] ?_; (with_reducible refine (spec_l1Num.calls a1 t144 _ A3.out).mono ?_); rintro e w9 ⟨rfl, hb⟩; refine ⟨_, rfl, ?_⟩; refine qs2 (blk_below (qb BK143.out) hb) (below_step zz23 hb) ?_; clear BK143 HB; intro BK143 HB; (try clear hb); (try clear hb2); (try clear hk); (try clear hi)) | ((with_reducible refine gate_callee (f := 90) rfl ?_); refine qcall 15 Tryd.func90 rfl #[.string a0, .int .u8 35] ?_; (with_reducible refine (spec_l1Split.calls k a0 35 t145 _ A5.out).mono ?_); rintro e w10 ⟨v146, rfl, ho0, hb⟩; refine ⟨_, rfl, ?_⟩; refine qs3 (Kd.R_lower ho0 (below_size zz23)) (blk_below (qb BK143.out) hb) (below_step zz23 hb) ?_; clear BK143 HB; intro HO147 BK143 HB; (try clear hb); (try clear hb2); (try clear hk); (try clear hi); (try clear ho0); obtain ⟨Ao11, co11, eo11⟩ := Kd.R_slice HO147.out; subst eo11; have p148 : 0 ≤ (0 : Int) := (by omega); have q148 : 0 < (t145.length : Int) := of_decide_eq_true zz5; obtain ⟨ad148, e148, hx148_0⟩ := Kd.at_string (Kd.R_reads' HO147.out).2.2 0 p148 q148; cases e148; have qi148 : (0 < t145.length) = True := eq_true (by omega); (try rw [show ((0 : Int)).toNat = 0 from rfl] at hx148_0); (try rw [Addr.add_zero'] at hx148_0); replace p148 := eq_true p148; replace q148 := eq_true q148))
  (try simp only [Act.put, List.setIfInBounds_toArray, List.set_cons_zero, List.set_cons_succ])
  go_cut [30] (fun v30 wc => ∃ (kq : Nat) (x30_6 : Bool), v30 = .bool x30_6 ∧ Aside0 (spec_l27Read.j0 kq a0 a1 (cat t144 (⟨#[32]⟩ : ByteArray)) (rdOf ByteArray.empty t145 0) x30_6 = some (r1, r2, r3)) ∧ Aside0 (kq ≤ k) ∧ Aside0 (wc.heap[gb143]? = some (.cells #[.string (⟨#[]⟩ : ByteArray), .string (⟨#[]⟩ : ByteArray)] 127 (0, 0))) ∧ Aside0 (Below w.heap.size w wc))
  case first =>
    have H := HC7.out
    clear HC7
    by_cases c12 : ((rdOf ByteArray.empty t145 0).size : Int) < ((cat t144 (⟨#[32]⟩ : ByteArray)).size : Int)
    · rw [if_pos c12] at H
      have c12b0 := decide_eq_true c12
      have c12b1 : decide ((rdOf ByteArray.empty t145 0).size < (cat t144 (⟨#[32]⟩ : ByteArray)).size) = true := decide_eq_true (Int.ofNat_lt.mp c12)
      clear c12
      (first | rw [c12b0] | (simp only [i64_w, i32_w]; rw [c12b0]) | skip)
      have H' := Aside0.mk H
      clear H
      go_wp2
      go_meet
      case rel => exact ⟨_, (true), zz4, H', ⟨zz2⟩, ⟨by (with_reducible repeat (first | refine blk_drewN ?_ _ | refine blk_drew ?_ | refine blk_alloc ?_ _)); exact BK143.out⟩, ⟨zz23⟩⟩
    rw [if_neg c12] at H
    have c12b0 := decide_eq_false c12
    have c12b1 : decide ((rdOf ByteArray.empty t145 0).size < (cat t144 (⟨#[32]⟩ : ByteArray)).size) = false := decide_eq_false (fun h => c12 (Int.ofNat_lt.mpr h))
    clear c12
    (first | rw [c12b0] | (simp only [i64_w, i32_w]; rw [c12b0]) | skip)
    by_cases c13 : 0 ≤ ((cat t144 (⟨#[32]⟩ : ByteArray)).size : Int)
    rotate_left
    · rw [if_neg c13] at H
      exact absurd H (by simp)
    rw [if_pos c13] at H
    have c13b0 := eq_true c13
    have c13b1 := decide_eq_true c13
    clear c13
    by_cases c14 : ((cat t144 (⟨#[32]⟩ : ByteArray)).size : Int) ≤ ((rdOf ByteArray.empty t145 0).size : Int)
    rotate_left
    · rw [if_neg c14] at H
      exact absurd H (by simp)
    rw [if_pos c14] at H
    have c14b0 := eq_true c14
    have c14b1 := decide_eq_true c14
    clear c14
    have H' := Aside0.mk H
    clear H
    go_wp2
    go_meet
    case rel => exact ⟨_, (((subs (rdOf ByteArray.empty t145 0) 0 (cat t144 (⟨#[32]⟩ : ByteArray)).size).toList != (cat t144 (⟨#[32]⟩ : ByteArray)).toList)), zz4, H', ⟨zz2⟩, ⟨by (with_reducible repeat (first | refine blk_drewN ?_ _ | refine blk_drew ?_ | refine blk_alloc ?_ _)); exact BK143.out⟩, ⟨zz23⟩⟩
  case rest =>
    clear HC7
    try clear c1
    try clear p1
    try clear q1
    try clear hx1
    try clear qi1
    try clear p2
    try clear c4
    try clear c4b0
    try clear c4b1
    try clear c4b2
    try clear c5
    try clear c6
    try clear c6b0
    try clear c6b1
    try clear c9
    try clear c12
    try clear c12b0
    try clear c12b1
    try clear c13
    try clear c13b0
    try clear c13b1
    try clear c14
    try clear c14b0
    try clear c14b1
    try clear p14
    try clear q14
    try clear hx14
    try clear qi14
    try clear hx148_0
    try clear p148
    try clear q148
    obtain ⟨kq, x30_6, rfl, HA, HJ6, BK143, HB⟩ := hcut
    cases kq with
    | zero => exact absurd HA.out (by simp [spec_l27Read.j0])
    | succ kj6 =>
      have H := HA.out
      clear HA
      simp only [spec_l27Read.j0] at H
      by_cases c15 : x30_6 = true
      · subst c15
        rw [if_pos rfl] at H
        simp only [Option.some.injEq, Prod.mk.injEq] at H
        obtain ⟨rfl, rfl, rfl⟩ := H
        obtain ⟨hcz16_0, hcz16_1, hfz16_0, hfz16_1⟩ := qc2 BK143.out
        go_wp2
        refine bodyPost_ret (results_ct rfl _ _ gb143 127 #[.string (⟨#[]⟩ : ByteArray), .string (⟨#[]⟩ : ByteArray)] (0, 0) _ rfl zz78 Tryd.underlying127 rfl (by kernel_rfl)) rfl ?_
        exact ⟨zz9, zz23⟩
      replace c15 := Bool.eq_false_iff.mpr c15
      subst c15
      rw [if_neg (show ¬ (false = true) by decide)] at H
      by_cases c17 : 0 ≤ ((cat t144 (⟨#[32]⟩ : ByteArray)).size : Int)
      rotate_left
      · rw [if_neg c17] at H
        exact absurd H (by simp)
      rw [if_pos c17] at H
      have c17b0 := eq_true c17
      have c17b1 := decide_eq_true c17
      clear c17
      by_cases c18 : ((cat t144 (⟨#[32]⟩ : ByteArray)).size : Int) ≤ ((rdOf ByteArray.empty t145 0).size : Int)
      rotate_left
      · rw [if_neg c18] at H
        exact absurd H (by simp)
      rw [if_pos c18] at H
      have c18b0 := eq_true c18
      have c18b1 := decide_eq_true c18
      clear c18
      replace H := Option.bind_eq_some_iff.mp H
      obtain ⟨t149, A190, H⟩ := H
      (try dsimp only at H)
      have A19 := Aside0.mk A190
      clear A190
      by_cases c20 : 0 < (t149.length : Int)
      rotate_left
      · rw [if_neg c20] at H
        exact absurd H (by simp)
      rw [if_pos c20] at H
      have c20b0 := decide_eq_true c20
      have c20b1 : decide (0 < t149.length) = true := decide_eq_true (by omega)
      clear c20
      by_cases c21 : ((rdOf ByteArray.empty t149 0).size : Int) = ((subs (rdOf ByteArray.empty t145 0) (cat t144 (⟨#[32]⟩ : ByteArray)).size (rdOf ByteArray.empty t145 0).size).size : Int)
      · rw [if_pos c21] at H
        have c21b0 := beq_iff_eq.mpr c21
        have c21b1 := bne_eq_false_iff_eq.mpr c21
        have c21b2 : ((rdOf ByteArray.empty t149 0).size == (subs (rdOf ByteArray.empty t145 0) (cat t144 (⟨#[32]⟩ : ByteArray)).size (rdOf ByteArray.empty t145 0).size).size) = true := by first | simpa using c21 | (simp at c21 ⊢; omega)
        clear c21
        simp only [Option.some.injEq, Prod.mk.injEq] at H
        obtain ⟨rfl, rfl, rfl⟩ := H
        go_wp2_with (first | ((with_reducible refine gate_callee (f := 90) rfl ?_); refine qcall 37 Tryd.func90 rfl #[.string (subs (rdOf ByteArray.empty t145 0) (cat t144 (⟨#[32]⟩ : ByteArray)).size (rdOf ByteArray.empty t145 0).size), .int .u8 64] ?_; (with_reducible refine (spec_l1Split.calls kj6 (subs (rdOf ByteArray.empty t145 0) (cat t144 (⟨#[32]⟩ : ByteArray)).size (rdOf ByteArray.empty t145 0).size) 64 t149 _ A19.out).mono ?_); rintro e w22 ⟨v150, rfl, ho0, hb⟩; refine ⟨_, rfl, ?_⟩; refine qs3 (Kd.R_lower ho0 (below_size zz23)) (blk_below (qb BK143.out) hb) (below_step zz23 hb) ?_; clear BK143 HB; intro HO151 BK143 HB; (try clear hb); (try clear hb2); (try clear hk); (try clear hi); (try clear ho0); obtain ⟨Ao23, co23, eo23⟩ := Kd.R_slice HO151.out; subst eo23; have p152 : 0 ≤ (0 : Int) := (by omega); have q152 : 0 < (t149.length : Int) := of_decide_eq_true zz5; obtain ⟨ad152, e152, hx152_0⟩ := Kd.at_string (Kd.R_reads' HO151.out).2.2 0 p152 q152; cases e152; have qi152 : (0 < t149.length) = True := eq_true (by omega); (try rw [show ((0 : Int)).toNat = 0 from rfl] at hx152_0); (try rw [Addr.add_zero'] at hx152_0); replace p152 := eq_true p152; replace q152 := eq_true q152; obtain ⟨hcz24_0, hcz24_1, hfz24_0, hfz24_1⟩ := qc2 BK143.out))
        refine bodyPost_ret (results_ct rfl _ _ gb143 127 #[.string (⟨#[]⟩ : ByteArray), .string (⟨#[]⟩ : ByteArray)] (0, 0) _ rfl zz78 Tryd.underlying127 rfl (by kernel_rfl)) rfl ?_
        exact ⟨zz9, zz23⟩
      rw [if_neg c21] at H
      have c21b0 := beq_eq_false_iff_ne.mpr c21
      have c21b1 := bne_iff_ne.mpr c21
      have c21b2 : ((rdOf ByteArray.empty t149 0).size == (subs (rdOf ByteArray.empty t145 0) (cat t144 (⟨#[32]⟩ : ByteArray)).size (rdOf ByteArray.empty t145 0).size).size) = false := by first | simpa using c21 | (simp at c21 ⊢; omega)
      obtain ⟨ji25, hji25⟩ : ∃ j_ : Int, (wrap64 (((rdOf ByteArray.empty t149 0).size : Int) + 1)) = j_ := ⟨_, rfl⟩
      replace H : (if 0 ≤ (ji25) then (if (ji25) ≤ ((subs (rdOf ByteArray.empty t145 0) (cat t144 (⟨#[32]⟩ : ByteArray)).size (rdOf ByteArray.empty t145 0).size).size : Int) then ((spec_l27Good.f kj6 (rdOf ByteArray.empty t149 0) (subs (subs (rdOf ByteArray.empty t145 0) (cat t144 (⟨#[32]⟩ : ByteArray)).size (rdOf ByteArray.empty t145 0).size) ((ji25) : Int).toNat (subs (rdOf ByteArray.empty t145 0) (cat t144 (⟨#[32]⟩ : ByteArray)).size (rdOf ByteArray.empty t145 0).size).size)).bind fun t154 => (if t154 = true then ((spec_l27Line.f kj6 a1 (rdOf ByteArray.empty t149 0) (subs (subs (rdOf ByteArray.empty t145 0) (cat t144 (⟨#[32]⟩ : ByteArray)).size (rdOf ByteArray.empty t145 0).size) ((ji25) : Int).toNat (subs (rdOf ByteArray.empty t145 0) (cat t144 (⟨#[32]⟩ : ByteArray)).size (rdOf ByteArray.empty t145 0).size).size)).bind fun t155 => (if a0.size + 1 ≤ 9223372036854775807 then (some (rdOf ByteArray.empty t149 0, subs (subs (rdOf ByteArray.empty t145 0) (cat t144 (⟨#[32]⟩ : ByteArray)).size (rdOf ByteArray.empty t145 0).size) ((ji25) : Int).toNat (subs (rdOf ByteArray.empty t145 0) (cat t144 (⟨#[32]⟩ : ByteArray)).size (rdOf ByteArray.empty t145 0).size).size, (t155.toList == (cat a0 (⟨#[10]⟩ : ByteArray)).toList))) else (none))) else (some (rdOf ByteArray.empty t149 0, subs (subs (rdOf ByteArray.empty t145 0) (cat t144 (⟨#[32]⟩ : ByteArray)).size (rdOf ByteArray.empty t145 0).size) ((ji25) : Int).toNat (subs (rdOf ByteArray.empty t145 0) (cat t144 (⟨#[32]⟩ : ByteArray)).size (rdOf ByteArray.empty t145 0).size).size, false)))) else (none)) else (none)) = some (r1, r2, r3) := by first | (rw [hji25] at H; exact H) | (simp only [hji25] at H ⊢; exact H)
      (try rw [hji25] at A19)
      have hji25w : (IntKind.i64.wrap (((rdOf ByteArray.empty t149 0).size : Int) + 1)) = ji25 := (i64_w _).trans hji25
      by_cases c26 : 0 ≤ (ji25)
      rotate_left
      · rw [if_neg c26] at H
        exact absurd H (by simp)
      rw [if_pos c26] at H
      have c26b0 := eq_true c26
      have c26b1 := decide_eq_true c26
      clear c26
      by_cases c27 : (ji25) ≤ ((subs (rdOf ByteArray.empty t145 0) (cat t144 (⟨#[32]⟩ : ByteArray)).size (rdOf ByteArray.empty t145 0).size).size : Int)
      rotate_left
      · rw [if_neg c27] at H
        exact absurd H (by simp)
      rw [if_pos c27] at H
      have c27b0 := eq_true c27
      have c27b1 := decide_eq_true c27
      clear c27
      replace H := Option.bind_eq_some_iff.mp H
      obtain ⟨t154, A280, H⟩ := H
      (try dsimp only at H)
      have A28 := Aside0.mk A280
      clear A280
      by_cases c29 : t154 = true
      rotate_left
      · replace c29 := Bool.eq_false_iff.mpr c29
        subst c29
        rw [if_neg (show ¬ (false = true) by decide)] at H
        simp only [Option.some.injEq, Prod.mk.injEq] at H
        obtain ⟨rfl, rfl, rfl⟩ := H
        try go_wp2_with (first | ((with_reducible refine gate_callee (f := 90) rfl ?_); refine qcall 37 Tryd.func90 rfl #[.string (subs (rdOf ByteArray.empty t145 0) (cat t144 (⟨#[32]⟩ : ByteArray)).size (rdOf ByteArray.empty t145 0).size), .int .u8 64] ?_; (with_reducible refine (spec_l1Split.calls kj6 (subs (rdOf ByteArray.empty t145 0) (cat t144 (⟨#[32]⟩ : ByteArray)).size (rdOf ByteArray.empty t145 0).size) 64 t149 _ A19.out).mono ?_); rintro e w43 ⟨v150, rfl, ho0, hb⟩; refine ⟨_, rfl, ?_⟩; refine qs3 (Kd.R_lower ho0 (below_size zz23)) (blk_below (qb BK143.out) hb) (below_step zz23 hb) ?_; clear BK143 HB; intro HO151 BK143 HB; (try clear hb); (try clear hb2); (try clear hk); (try clear hi); (try clear ho0); obtain ⟨Ao44, co44, eo44⟩ := Kd.R_slice HO151.out; subst eo44; have p152 : 0 ≤ (0 : Int) := (by omega); have q152 : 0 < (t149.length : Int) := of_decide_eq_true zz5; obtain ⟨ad152, e152, hx152_0⟩ := Kd.at_string (Kd.R_reads' HO151.out).2.2 0 p152 q152; cases e152; have qi152 : (0 < t149.length) = True := eq_true (by omega); (try rw [show ((0 : Int)).toNat = 0 from rfl] at hx152_0); (try rw [Addr.add_zero'] at hx152_0); replace p152 := eq_true p152; replace q152 := eq_true q152) | ((with_reducible refine gate_dst (N := 10) rfl ?_); (try (refine gate_guard (by rfl) ?_; dsimp only)); refine qbox (N := 10) (cs := #[.string (⟨#[]⟩ : ByteArray), .string (⟨#[]⟩ : ByteArray)]) (t := 127) ?_; intro gb153 hg w45 hbox hb; refine qs8 (Kd.R_below (qr HO151.out) hb) (blk_below (qb BK143.out) hb) (below_step zz23 hb) (hbox) ((by rw [hg]; exact (below_size zz23) : w.heap.size ≤ gb153)) ((by rw [hg]; exact (below_size zz23) : w.heap.size ≤ gb153)) ((by rw [hg]; exact Nat.ne_of_lt (blk_lt (qb BK143.out)) : gb143 ≠ gb153)) ((by rw [hg]; exact Nat.ne_of_gt (blk_lt (qb BK143.out)) : gb153 ≠ gb143)) ?_; clear HO151 BK143 HB; intro HO151 BK143 HB BK153 GW153 GE153 NB143_153 NB153_143; clear hb hbox hg; have hnb46 := NB153_143.out; have hnc46 := NB143_153.out; obtain ⟨hcz47_0, hcz47_1, hfz47_0, hfz47_1⟩ := qc2 BK153.out))
        have n0_ : Aside0 (Kd.R Kd.string 9 ((w45.setCell ⟨gb153, 0, none⟩ (.string (rdOf ByteArray.empty t149 0))).setCell ⟨gb153, 1, none⟩ (.string (subs (subs (rdOf ByteArray.empty t145 0) (cat t144 (⟨#[32]⟩ : ByteArray)).size (rdOf ByteArray.empty t145 0).size) ((ji25) : Int).toNat (subs (rdOf ByteArray.empty t145 0) (cat t144 (⟨#[32]⟩ : ByteArray)).size (rdOf ByteArray.empty t145 0).size).size))) w.heap.size (fun _ => True) (.slice (some ad152) t149.length co44) t149) := ⟨zz81⟩
        have n1_ : Aside0 (((w45.setCell ⟨gb153, 0, none⟩ (.string (rdOf ByteArray.empty t149 0))).setCell ⟨gb153, 1, none⟩ (.string (subs (subs (rdOf ByteArray.empty t145 0) (cat t144 (⟨#[32]⟩ : ByteArray)).size (rdOf ByteArray.empty t145 0).size) ((ji25) : Int).toNat (subs (rdOf ByteArray.empty t145 0) (cat t144 (⟨#[32]⟩ : ByteArray)).size (rdOf ByteArray.empty t145 0).size).size))).heap[gb143]? = some (.cells #[.string (⟨#[]⟩ : ByteArray), .string (⟨#[]⟩ : ByteArray)] 127 (0, 0))) := ⟨zz75⟩
        have n2_ : Aside0 (((w45.setCell ⟨gb153, 0, none⟩ (.string (rdOf ByteArray.empty t149 0))).setCell ⟨gb153, 1, none⟩ (.string (subs (subs (rdOf ByteArray.empty t145 0) (cat t144 (⟨#[32]⟩ : ByteArray)).size (rdOf ByteArray.empty t145 0).size) ((ji25) : Int).toNat (subs (rdOf ByteArray.empty t145 0) (cat t144 (⟨#[32]⟩ : ByteArray)).size (rdOf ByteArray.empty t145 0).size).size))).heap[gb153]? = some (.cells #[.string (rdOf ByteArray.empty t149 0), .string (subs (subs (rdOf ByteArray.empty t145 0) (cat t144 (⟨#[32]⟩ : ByteArray)).size (rdOf ByteArray.empty t145 0).size) ((ji25) : Int).toNat (subs (rdOf ByteArray.empty t145 0) (cat t144 (⟨#[32]⟩ : ByteArray)).size (rdOf ByteArray.empty t145 0).size).size)] 127 (0, 0))) := ⟨zz79⟩
        have n3_ : Aside0 (Below w.heap.size w ((w45.setCell ⟨gb153, 0, none⟩ (.string (rdOf ByteArray.empty t149 0))).setCell ⟨gb153, 1, none⟩ (.string (subs (subs (rdOf ByteArray.empty t145 0) (cat t144 (⟨#[32]⟩ : ByteArray)).size (rdOf ByteArray.empty t145 0).size) ((ji25) : Int).toNat (subs (rdOf ByteArray.empty t145 0) (cat t144 (⟨#[32]⟩ : ByteArray)).size (rdOf ByteArray.empty t145 0).size).size)))) := ⟨zz62⟩
        (try clear HO151)
        (try clear BK143)
        (try clear BK153)
        (try clear HB)
        generalize ((w45.setCell ⟨gb153, 0, none⟩ (.string (rdOf ByteArray.empty t149 0))).setCell ⟨gb153, 1, none⟩ (.string (subs (subs (rdOf ByteArray.empty t145 0) (cat t144 (⟨#[32]⟩ : ByteArray)).size (rdOf ByteArray.empty t145 0).size) ((ji25) : Int).toNat (subs (rdOf ByteArray.empty t145 0) (cat t144 (⟨#[32]⟩ : ByteArray)).size (rdOf ByteArray.empty t145 0).size).size))) = w48 at n0_ n1_ n2_ n3_ ⊢
        have HO151 := n0_
        have BK143 := n1_
        have BK153 := n2_
        have HB := n3_
        clear n0_ n1_ n2_ n3_
        refine qs4 (Kd.R_drew HO151.out) (blk_drew BK143.out) (blk_drew BK153.out) (below_drew1 HB.out) ?_; clear HO151 BK143 BK153 HB; intro HO151 BK143 BK153 HB
        refine start_ (n := 13) (S := fun w' => w'.cell? ⟨gb153, 0, none⟩ = some (.string (rdOf ByteArray.empty t149 0)) ∧ w'.cell? ⟨gb153, 1, none⟩ = some (.string (subs (subs (rdOf ByteArray.empty t145 0) (cat t144 (⟨#[32]⟩ : ByteArray)).size (rdOf ByteArray.empty t145 0).size) ((ji25) : Int).toNat (subs (rdOf ByteArray.empty t145 0) (cat t144 (⟨#[32]⟩ : ByteArray)).size (rdOf ByteArray.empty t145 0).size).size))) (ds := []) #[false, false, false, false, false, false, false, false, false, false, false, false, false] (by kernel_rfl) rfl rfl ⟨(blk_cell BK153.out 0).trans rfl, (blk_cell BK153.out 1).trans rfl⟩ (fun hHeld => ?_); refine with_tabW spec_l27Read.tab10 spec_l27Read.bits10 (fun HT_ HW_ => ?_)
        generalize w48.drew = w49 at HO151 BK143 BK153 HB hHeld ⊢
        refine qt2 0 53 ?_; refine qt2 1 54 ?_
        refine one_ (i := 2) (N := some 55) #[true, true, true, false, false, false, false, false, false, false, false, false, false] rfl rfl (one_of HT_.out (by kernel_rfl)) (by decide) (fun K hK => ?_)
        refine goes_ Tryd.func97 (by kernel_rfl) rfl #[.agg #[.string (rdOf ByteArray.empty t149 0), .string (subs (subs (rdOf ByteArray.empty t145 0) (cat t144 (⟨#[32]⟩ : ByteArray)).size (rdOf ByteArray.empty t145 0).size) ((ji25) : Int).toNat (subs (rdOf ByteArray.empty t145 0) (cat t144 (⟨#[32]⟩ : ByteArray)).size (rdOf ByteArray.empty t145 0).size).size)]] (by rfl) rfl rfl zz53 ?_
        with_reducible refine (spec_l27Good.calls kj6 (rdOf ByteArray.empty t149 0) (subs (subs (rdOf ByteArray.empty t145 0) (cat t144 (⟨#[32]⟩ : ByteArray)).size (rdOf ByteArray.empty t145 0).size) ((ji25) : Int).toNat (subs (rdOf ByteArray.empty t145 0) (cat t144 (⟨#[32]⟩ : ByteArray)).size (rdOf ByteArray.empty t145 0).size).size) false _ A28.out).mono ?_
        rintro e w50 ⟨rfl, hb⟩
        refine ⟨_, rfl, ?_⟩
        refine qs4 (Kd.R_below (qr HO151.out) hb) (blk_below (qb BK143.out) hb) (blk_below (qb BK153.out) hb) (below_step zz62 hb) ?_; clear HO151 BK143 BK153 HB; intro HO151 BK143 BK153 HB
        (try clear hb)
        (try clear hb2)
        (try clear hk)
        (try clear hi)
        refine hK.out _ _ ⟨(blk_cell BK153.out 0).trans rfl, (blk_cell BK153.out 1).trans rfl⟩ (fun hHeld => ?_)
        clear hK K
        refine norm_ (a' := ?_) ?_ ?_
        rotate_left
        · show Act.put _ (some 55) _ = _
          simp only [Act.put, List.setIfInBounds_toArray, List.set_cons_zero, List.set_cons_succ, i64_w, i32_w]
          rfl
        refine qp 3 56 ?_; refine qu 4 57 ?_; refine qu 5 58 ?_; refine qu 6 59 ?_; refine qu 7 60 ?_; refine qu 8 61 ?_; refine qu 9 62 ?_; refine qp 10 63 ?_
        refine one_ (i := 11) (N := none) #[true, true, true, true, true, true, true, true, true, true, true, true, false] rfl rfl (one_of HT_.out (by kernel_rfl)) (by decide) (fun K hK => ?_)
        have hs51 : w50.cell? ⟨gb143, 0, none⟩ = some (.string (⟨#[]⟩ : ByteArray)) := (blk_cell BK143.out 0).trans rfl
        have hfs51 := blk_frozen BK143.out 0
        have hns51_1 := NB153_143.out
        have hms51_1 := NB143_153.out
        have hs52 : w50.cell? ⟨gb143, 1, none⟩ = some (.string (⟨#[]⟩ : ByteArray)) := (blk_cell BK143.out 1).trans rfl
        have hfs52 := blk_frozen BK143.out 1
        have hns52_1 := NB153_143.out
        have hms52_1 := NB143_153.out
        refine skip_ (w1 := ?_) (by rfl) rfl ?_ ?_
        rotate_left
        · go_simp
          rfl
        refine hK.out _ _ ⟨((cell_far (p := ⟨gb143, _, none⟩) NB153_143.out _).trans (((cell_far (p := ⟨gb143, _, none⟩) NB153_143.out _).trans (hHeld.1)))), ((cell_far (p := ⟨gb143, _, none⟩) NB153_143.out _).trans (((cell_far (p := ⟨gb143, _, none⟩) NB153_143.out _).trans (hHeld.2))))⟩ (fun hHeld => ?_)
        clear hK K
        refine qp 12 5 ?_
        refine done_ (done_of HT_.out (by kernel_rfl)) ?_
        try go_wp2
        refine bodyPost_ret (results_ct rfl _ _ gb143 127 #[.string (rdOf ByteArray.empty t149 0), .string (subs (subs (rdOf ByteArray.empty t145 0) (cat t144 (⟨#[32]⟩ : ByteArray)).size (rdOf ByteArray.empty t145 0).size) ((ji25) : Int).toNat (subs (rdOf ByteArray.empty t145 0) (cat t144 (⟨#[32]⟩ : ByteArray)).size (rdOf ByteArray.empty t145 0).size).size)] (0, 0) _ rfl zz80 Tryd.underlying127 rfl (by kernel_rfl)) rfl ?_
        exact ⟨by first | rfl | (simp [errW_none, errW_some] <;> rfl) | (simp only [← hji25]; first | rfl | (simp [errW_none, errW_some] <;> rfl)) | (simp [*, errW_none, errW_some] <;> rfl), zz62⟩
      subst c29
      rw [if_pos rfl] at H
      replace H := Option.bind_eq_some_iff.mp H
      obtain ⟨t155, A300, H⟩ := H
      (try dsimp only at H)
      have A30 := Aside0.mk A300
      clear A300
      by_cases c31 : a0.size + 1 ≤ 9223372036854775807
      rotate_left
      · rw [if_neg c31] at H
        exact absurd H (by simp)
      rw [if_pos c31] at H
      have c31b0 := eq_true c31
      have c31b1 := decide_eq_true c31
      try have c31b2 := eq_false (Nat.not_lt.2 c31)
      clear c31
      simp only [Option.some.injEq, Prod.mk.injEq] at H
      obtain ⟨rfl, rfl, rfl⟩ := H
      try go_wp2_with (first | ((with_reducible refine gate_callee (f := 90) rfl ?_); refine qcall 37 Tryd.func90 rfl #[.string (subs (rdOf ByteArray.empty t145 0) (cat t144 (⟨#[32]⟩ : ByteArray)).size (rdOf ByteArray.empty t145 0).size), .int .u8 64] ?_; (with_reducible refine (spec_l1Split.calls kj6 (subs (rdOf ByteArray.empty t145 0) (cat t144 (⟨#[32]⟩ : ByteArray)).size (rdOf ByteArray.empty t145 0).size) 64 t149 _ A19.out).mono ?_); rintro e w32 ⟨v150, rfl, ho0, hb⟩; refine ⟨_, rfl, ?_⟩; refine qs3 (Kd.R_lower ho0 (below_size zz23)) (blk_below (qb BK143.out) hb) (below_step zz23 hb) ?_; clear BK143 HB; intro HO151 BK143 HB; (try clear hb); (try clear hb2); (try clear hk); (try clear hi); (try clear ho0); obtain ⟨Ao33, co33, eo33⟩ := Kd.R_slice HO151.out; subst eo33; have p152 : 0 ≤ (0 : Int) := (by omega); have q152 : 0 < (t149.length : Int) := of_decide_eq_true zz5; obtain ⟨ad152, e152, hx152_0⟩ := Kd.at_string (Kd.R_reads' HO151.out).2.2 0 p152 q152; cases e152; have qi152 : (0 < t149.length) = True := eq_true (by omega); (try rw [show ((0 : Int)).toNat = 0 from rfl] at hx152_0); (try rw [Addr.add_zero'] at hx152_0); replace p152 := eq_true p152; replace q152 := eq_true q152) | ((with_reducible refine gate_dst (N := 10) rfl ?_); (try (refine gate_guard (by rfl) ?_; dsimp only)); refine qbox (N := 10) (cs := #[.string (⟨#[]⟩ : ByteArray), .string (⟨#[]⟩ : ByteArray)]) (t := 127) ?_; intro gb153 hg w34 hbox hb; refine qs8 (Kd.R_below (qr HO151.out) hb) (blk_below (qb BK143.out) hb) (below_step zz23 hb) (hbox) ((by rw [hg]; exact (below_size zz23) : w.heap.size ≤ gb153)) ((by rw [hg]; exact (below_size zz23) : w.heap.size ≤ gb153)) ((by rw [hg]; exact Nat.ne_of_lt (blk_lt (qb BK143.out)) : gb143 ≠ gb153)) ((by rw [hg]; exact Nat.ne_of_gt (blk_lt (qb BK143.out)) : gb153 ≠ gb143)) ?_; clear HO151 BK143 HB; intro HO151 BK143 HB BK153 GW153 GE153 NB143_153 NB153_143; clear hb hbox hg; have hnb35 := NB153_143.out; have hnc35 := NB143_153.out; obtain ⟨hcz36_0, hcz36_1, hfz36_0, hfz36_1⟩ := qc2 BK153.out))
      have n0_ : Aside0 (Kd.R Kd.string 9 ((w34.setCell ⟨gb153, 0, none⟩ (.string (rdOf ByteArray.empty t149 0))).setCell ⟨gb153, 1, none⟩ (.string (subs (subs (rdOf ByteArray.empty t145 0) (cat t144 (⟨#[32]⟩ : ByteArray)).size (rdOf ByteArray.empty t145 0).size) ((ji25) : Int).toNat (subs (rdOf ByteArray.empty t145 0) (cat t144 (⟨#[32]⟩ : ByteArray)).size (rdOf ByteArray.empty t145 0).size).size))) w.heap.size (fun _ => True) (.slice (some ad152) t149.length co33) t149) := ⟨zz81⟩
      have n1_ : Aside0 (((w34.setCell ⟨gb153, 0, none⟩ (.string (rdOf ByteArray.empty t149 0))).setCell ⟨gb153, 1, none⟩ (.string (subs (subs (rdOf ByteArray.empty t145 0) (cat t144 (⟨#[32]⟩ : ByteArray)).size (rdOf ByteArray.empty t145 0).size) ((ji25) : Int).toNat (subs (rdOf ByteArray.empty t145 0) (cat t144 (⟨#[32]⟩ : ByteArray)).size (rdOf ByteArray.empty t145 0).size).size))).heap[gb143]? = some (.cells #[.string (⟨#[]⟩ : ByteArray), .string (⟨#[]⟩ : ByteArray)] 127 (0, 0))) := ⟨zz75⟩
      have n2_ : Aside0 (((w34.setCell ⟨gb153, 0, none⟩ (.string (rdOf ByteArray.empty t149 0))).setCell ⟨gb153, 1, none⟩ (.string (subs (subs (rdOf ByteArray.empty t145 0) (cat t144 (⟨#[32]⟩ : ByteArray)).size (rdOf ByteArray.empty t145 0).size) ((ji25) : Int).toNat (subs (rdOf ByteArray.empty t145 0) (cat t144 (⟨#[32]⟩ : ByteArray)).size (rdOf ByteArray.empty t145 0).size).size))).heap[gb153]? = some (.cells #[.string (rdOf ByteArray.empty t149 0), .string (subs (subs (rdOf ByteArray.empty t145 0) (cat t144 (⟨#[32]⟩ : ByteArray)).size (rdOf ByteArray.empty t145 0).size) ((ji25) : Int).toNat (subs (rdOf ByteArray.empty t145 0) (cat t144 (⟨#[32]⟩ : ByteArray)).size (rdOf ByteArray.empty t145 0).size).size)] 127 (0, 0))) := ⟨zz79⟩
      have n3_ : Aside0 (Below w.heap.size w ((w34.setCell ⟨gb153, 0, none⟩ (.string (rdOf ByteArray.empty t149 0))).setCell ⟨gb153, 1, none⟩ (.string (subs (subs (rdOf ByteArray.empty t145 0) (cat t144 (⟨#[32]⟩ : ByteArray)).size (rdOf ByteArray.empty t145 0).size) ((ji25) : Int).toNat (subs (rdOf ByteArray.empty t145 0) (cat t144 (⟨#[32]⟩ : ByteArray)).size (rdOf ByteArray.empty t145 0).size).size)))) := ⟨zz62⟩
      (try clear HO151)
      (try clear BK143)
      (try clear BK153)
      (try clear HB)
      generalize ((w34.setCell ⟨gb153, 0, none⟩ (.string (rdOf ByteArray.empty t149 0))).setCell ⟨gb153, 1, none⟩ (.string (subs (subs (rdOf ByteArray.empty t145 0) (cat t144 (⟨#[32]⟩ : ByteArray)).size (rdOf ByteArray.empty t145 0).size) ((ji25) : Int).toNat (subs (rdOf ByteArray.empty t145 0) (cat t144 (⟨#[32]⟩ : ByteArray)).size (rdOf ByteArray.empty t145 0).size).size))) = w37 at n0_ n1_ n2_ n3_ ⊢
      have HO151 := n0_
      have BK143 := n1_
      have BK153 := n2_
      have HB := n3_
      clear n0_ n1_ n2_ n3_
      refine qs4 (Kd.R_drew HO151.out) (blk_drew BK143.out) (blk_drew BK153.out) (below_drew1 HB.out) ?_; clear HO151 BK143 BK153 HB; intro HO151 BK143 BK153 HB
      refine start_ (n := 13) (S := fun w' => w'.cell? ⟨gb153, 0, none⟩ = some (.string (rdOf ByteArray.empty t149 0)) ∧ w'.cell? ⟨gb153, 1, none⟩ = some (.string (subs (subs (rdOf ByteArray.empty t145 0) (cat t144 (⟨#[32]⟩ : ByteArray)).size (rdOf ByteArray.empty t145 0).size) ((ji25) : Int).toNat (subs (rdOf ByteArray.empty t145 0) (cat t144 (⟨#[32]⟩ : ByteArray)).size (rdOf ByteArray.empty t145 0).size).size))) (ds := []) #[false, false, false, false, false, false, false, false, false, false, false, false, false] (by kernel_rfl) rfl rfl ⟨(blk_cell BK153.out 0).trans rfl, (blk_cell BK153.out 1).trans rfl⟩ (fun hHeld => ?_); refine with_tabW spec_l27Read.tab10 spec_l27Read.bits10 (fun HT_ HW_ => ?_)
      generalize w37.drew = w38 at HO151 BK143 BK153 HB hHeld ⊢
      refine qt2 0 53 ?_; refine qt2 1 54 ?_
      refine one_ (i := 2) (N := some 55) #[true, true, true, false, false, false, false, false, false, false, false, false, false] rfl rfl (one_of HT_.out (by kernel_rfl)) (by decide) (fun K hK => ?_)
      refine goes_ Tryd.func97 (by kernel_rfl) rfl #[.agg #[.string (rdOf ByteArray.empty t149 0), .string (subs (subs (rdOf ByteArray.empty t145 0) (cat t144 (⟨#[32]⟩ : ByteArray)).size (rdOf ByteArray.empty t145 0).size) ((ji25) : Int).toNat (subs (rdOf ByteArray.empty t145 0) (cat t144 (⟨#[32]⟩ : ByteArray)).size (rdOf ByteArray.empty t145 0).size).size)]] (by rfl) rfl rfl zz53 ?_
      with_reducible refine (spec_l27Good.calls kj6 (rdOf ByteArray.empty t149 0) (subs (subs (rdOf ByteArray.empty t145 0) (cat t144 (⟨#[32]⟩ : ByteArray)).size (rdOf ByteArray.empty t145 0).size) ((ji25) : Int).toNat (subs (rdOf ByteArray.empty t145 0) (cat t144 (⟨#[32]⟩ : ByteArray)).size (rdOf ByteArray.empty t145 0).size).size) true _ A28.out).mono ?_
      rintro e w39 ⟨rfl, hb⟩
      refine ⟨_, rfl, ?_⟩
      refine qs4 (Kd.R_below (qr HO151.out) hb) (blk_below (qb BK143.out) hb) (blk_below (qb BK153.out) hb) (below_step zz62 hb) ?_; clear HO151 BK143 BK153 HB; intro HO151 BK143 BK153 HB
      (try clear hb)
      (try clear hb2)
      (try clear hk)
      (try clear hi)
      refine hK.out _ _ ⟨(blk_cell BK153.out 0).trans rfl, (blk_cell BK153.out 1).trans rfl⟩ (fun hHeld => ?_)
      clear hK K
      refine norm_ (a' := ?_) ?_ ?_
      rotate_left
      · show Act.put _ (some 55) _ = _
        simp only [Act.put, List.setIfInBounds_toArray, List.set_cons_zero, List.set_cons_succ, i64_w, i32_w]
        rfl
      refine qp 3 56 ?_; refine qp 4 57 ?_; refine qp 7 60 ?_; refine qp 8 61 ?_; refine qt2 5 58 ?_
      refine one_ (i := 6) (N := some 59) #[true, true, true, true, true, true, true, true, true, false, false, false, false] rfl rfl (one_of HT_.out (by kernel_rfl)) (by decide) (fun K hK => ?_)
      refine goes_ Tryd.func98 (by kernel_rfl) rfl #[.int .i64 a1, .agg #[.string (rdOf ByteArray.empty t149 0), .string (subs (subs (rdOf ByteArray.empty t145 0) (cat t144 (⟨#[32]⟩ : ByteArray)).size (rdOf ByteArray.empty t145 0).size) ((ji25) : Int).toNat (subs (rdOf ByteArray.empty t145 0) (cat t144 (⟨#[32]⟩ : ByteArray)).size (rdOf ByteArray.empty t145 0).size).size)]] (by rfl) rfl rfl zz53 ?_
      with_reducible refine (spec_l27Line.calls kj6 a1 (rdOf ByteArray.empty t149 0) (subs (subs (rdOf ByteArray.empty t145 0) (cat t144 (⟨#[32]⟩ : ByteArray)).size (rdOf ByteArray.empty t145 0).size) ((ji25) : Int).toNat (subs (rdOf ByteArray.empty t145 0) (cat t144 (⟨#[32]⟩ : ByteArray)).size (rdOf ByteArray.empty t145 0).size).size) t155 _ A30.out).mono ?_
      rintro e w40 ⟨rfl, hb⟩
      refine ⟨_, rfl, ?_⟩
      refine qs4 (Kd.R_below (qr HO151.out) hb) (blk_below (qb BK143.out) hb) (blk_below (qb BK153.out) hb) (below_step zz62 hb) ?_; clear HO151 BK143 BK153 HB; intro HO151 BK143 BK153 HB
      (try clear hb)
      (try clear hb2)
      (try clear hk)
      (try clear hi)
      refine hK.out _ _ ⟨(blk_cell BK153.out 0).trans rfl, (blk_cell BK153.out 1).trans rfl⟩ (fun hHeld => ?_)
      clear hK K
      refine norm_ (a' := ?_) ?_ ?_
      rotate_left
      · show Act.put _ (some 59) _ = _
        simp only [Act.put, List.setIfInBounds_toArray, List.set_cons_zero, List.set_cons_succ, i64_w, i32_w]
        rfl
      refine qp 9 62 ?_; refine qp 10 63 ?_
      refine one_ (i := 11) (N := none) #[true, true, true, true, true, true, true, true, true, true, true, true, false] rfl rfl (one_of HT_.out (by kernel_rfl)) (by decide) (fun K hK => ?_)
      have hs41 : w40.cell? ⟨gb143, 0, none⟩ = some (.string (⟨#[]⟩ : ByteArray)) := (blk_cell BK143.out 0).trans rfl
      have hfs41 := blk_frozen BK143.out 0
      have hns41_1 := NB153_143.out
      have hms41_1 := NB143_153.out
      have hs42 : w40.cell? ⟨gb143, 1, none⟩ = some (.string (⟨#[]⟩ : ByteArray)) := (blk_cell BK143.out 1).trans rfl
      have hfs42 := blk_frozen BK143.out 1
      have hns42_1 := NB153_143.out
      have hms42_1 := NB143_153.out
      refine skip_ (w1 := ?_) (by rfl) rfl ?_ ?_
      rotate_left
      · go_simp
        rfl
      refine hK.out _ _ ⟨((cell_far (p := ⟨gb143, _, none⟩) NB153_143.out _).trans (((cell_far (p := ⟨gb143, _, none⟩) NB153_143.out _).trans (hHeld.1)))), ((cell_far (p := ⟨gb143, _, none⟩) NB153_143.out _).trans (((cell_far (p := ⟨gb143, _, none⟩) NB153_143.out _).trans (hHeld.2))))⟩ (fun hHeld => ?_)
      clear hK K
      refine qp 12 5 ?_
      refine done_ (done_of HT_.out (by kernel_rfl)) ?_
      try go_wp2
      refine bodyPost_ret (results_ct rfl _ _ gb143 127 #[.string (rdOf ByteArray.empty t149 0), .string (subs (subs (rdOf ByteArray.empty t145 0) (cat t144 (⟨#[32]⟩ : ByteArray)).size (rdOf ByteArray.empty t145 0).size) ((ji25) : Int).toNat (subs (rdOf ByteArray.empty t145 0) (cat t144 (⟨#[32]⟩ : ByteArray)).size (rdOf ByteArray.empty t145 0).size).size)] (0, 0) _ rfl zz80 Tryd.underlying127 rfl (by kernel_rfl)) rfl ?_
      exact ⟨by first | rfl | (simp [errW_none, errW_some] <;> rfl) | (simp only [← hji25]; first | rfl | (simp [errW_none, errW_some] <;> rfl)) | (simp [*, errW_none, errW_some] <;> rfl), zz62⟩

end

end Go.Proofs.YtneaeaoemhghdaaDoor.G

-- Written by a program of this session (wip/pd.py), which calls the kit's print; externals' contracts by hand.
namespace Go.Proofs.YtneaeaoemhghdaaDoor.G
open Go.Proofs.YtneaeaoemhghdaaDoorQ
open Go.RowKit Go.Proofs.YtneaeaoemhghdaaDoorW.PrintWords Go.Proofs.YtneaeaoemhghdaaDoorW.PrintLast Go.Proofs.YtneaeaoemhghdaaDoorW.PrintMore
attribute [local go_sem] max2_int min2_int max_two min_two max_three min_three max_four min_four   -- for this text's walks alone
set_option linter.unusedVariables false
set_option linter.unusedSimpArgs false

section
attribute [local go_sem high] run_add_cat run_slice_cat run_slice_cat_h run_slice_cat_l run_slice_cat_all
/-! ### spec_l27Open: function 82 -/
mutual
def spec_l27Open.l0 : Nat → ByteArray → List (S127) → Int → Option ((List (S127)) × Int)
  | 0, _, _, _ => none
  | k + 1, x0, x4, x5 => if x5 < (x0.size : Int) then (spec_l27Open.j1 k x0 x4 x5 (decide ((x4.length : Int) < 60))) else (spec_l27Open.j1 k x0 x4 x5 false)
def spec_l27Open.j1 : Nat → ByteArray → List (S127) → Int → Bool → Option ((List (S127)) × Int)
  | 0, _, _, _, _ => none
  | k + 1, x0, x4, x5, x18 => if x18 = true then (if 0 ≤ x5 then (if x5 ≤ (x0.size : Int) then ((spec_l1Split.f k (subs x0 (x5 : Int).toNat x0.size) 10).bind fun t159 => (if 0 < (t159.length : Int) then ((spec_l27Read.f k (rdOf ByteArray.empty t159 0) (x4.length : Int)).bind fun bt163 => (if (t159.length : Int) < 2 then (some (x4, x5)) else (if bt163.2.2 = true then (if x4.length < 4398046511104 then (spec_l27Open.l0 k x0 (x4 ++ [(⟨bt163.1, bt163.2.1⟩ : S127)]) (wrap64 ((wrap64 (x5 + ((rdOf ByteArray.empty t159 0).size : Int))) + 1))) else (none)) else (some (x4, x5))))) else (none))) else (none)) else (none)) else (some (x4, x5))
end
def spec_l27Open.f (k : Nat) (a0 : ByteArray) : Option ((List (S127)) × Int) := spec_l27Open.l0 k a0 (([] : List (S127))) 0
set_option maxHeartbeats 8000000 in
set_option maxRecDepth 100000 in
theorem spec_l27Open.calls (k : Nat) (a0 : ByteArray) (r1 : List (S127)) (r2 : Int) (w : World) (h : spec_l27Open.f k a0 = some (r1, r2)) :
    Calls Tryd.prog 82 #[.string a0] w fun e w' => ∃ v0_ : Value, e = .returned (.tuple #[v0_, .int .i64 r2]) ∧ Kd.R k127 127 w' w.heap.size (fun _ => True) v0_ r1 ∧ Below w.heap.size w w' := by
  have hu127 := Tryd.underlying127
  have HB := Aside0.mk (Below.refl w.heap.size w)
  have H : (spec_l27Open.l0 k a0 (([] : List (S127))) 0) = some (r1, r2) := h
  clear h
  obtain ⟨y156, hy156⟩ : ∃ y_ : List (S127), y_ = (([] : List (S127))) := ⟨_, rfl⟩
  replace H : (spec_l27Open.l0 k a0 y156 0) = some (r1, r2) := by first | (rw [hy156]; with_reducible exact H) | (have H2_ := (Option.bind_some _ _).symm.trans H; rw [hy156]; with_reducible exact H2_) | (have H2_ := (Option.bind_some _ _).symm.trans H; with_reducible exact H2_) | with_reducible exact H | (rw [hy156]; exact H) | exact H
  have Ny156 := Aside0.mk hy156
  clear hy156
  have H' := Aside0.mk H
  clear H
  go_enter Tryd.func82, Tryd.ntmps82
  go_wp2_with (first | ((with_reducible refine gate_dst (N := 9) rfl ?_); (try (refine gate_guard (by rfl) ?_; dsimp only)); refine Kd.R_lit k127 _ 127 ?hg (N := 9) ?hd (xs := ([] : List (S127))) (inner := []) (ok := fun _ => True) (okp := fun _ => True) ?hr ?hp (fun _ hk => hk) trivial (Below.refl _ _) (Nat.le_refl _) (by simp) ?_; (case hd => rfl); (case hg => rfl); (case hr => exact zz3); (case hp => exact (Reps.none _ _)); intro v157 w2 ho3 hb hg_ hnew_; clear hg_ hnew_; (first | rw [← Ny156.out] at ho3 | (simp only [Int.reduceToNat] at ho3; rw [← Ny156.out] at ho3)); refine qs2 (Kd.R_lower ho3 (below_size zz20)) (below_step zz20 hb) ?_; clear HB; intro HO158 HB; clear hb ho3))
  go_loopg [4, 5] k (fun kq v4 v5 w' => ∃ (x4_1 : List (S127)) (x5_1 : Int), v5 = .int .i64 x5_1 ∧ Aside0 (spec_l27Open.l0 kq a0 x4_1 x5_1 = some (r1, r2)) ∧ Aside0 (kq ≤ k) ∧ Aside0 (Kd.R k127 127 w' w.heap.size (fun _ => True) v4 x4_1) ∧ Aside0 (Below w.heap.size w w'))
  case atStart => exact ⟨(y156), (0), zz4, H', ⟨Nat.le_refl _⟩, ⟨by (with_reducible repeat (first | apply Kd.R_alloc | apply Kd.R_drewN | apply Kd.R_drew)); exact HO158.out⟩, ⟨zz20⟩⟩
  case round =>
    clear H'
    try clear p2
    obtain ⟨x4_1, x5_1, rfl, HA, HK1, HO_4, HB⟩ := hrel
    cases gk with
    | zero => exact absurd HA.out (by simp [spec_l27Open.l0])
    | succ k1 =>
      have H := HA.out
      clear HA
      simp only [spec_l27Open.l0] at H
      have HC4 := Aside0.mk H
      clear H
      go_upto_region 3 with (fail)
      go_cut [18] (fun v18 wc => ∃ (kq : Nat) (x18_3 : Bool), v18 = .bool x18_3 ∧ Aside0 (spec_l27Open.j1 kq a0 x4_1 x5_1 x18_3 = some (r1, r2)) ∧ Aside0 (kq ≤ k1) ∧ Aside0 (Kd.R k127 127 wc w.heap.size (fun _ => True) u4 x4_1) ∧ Aside0 (Below w.heap.size w wc))
      case first =>
        have H := HC4.out
        clear HC4
        by_cases c5 : x5_1 < (a0.size : Int)
        rotate_left
        · rw [if_neg c5] at H
          have c5b0 := decide_eq_false c5
          clear c5
          (first | rw [c5b0] | (simp only [i64_w, i32_w]; rw [c5b0]) | skip)
          have H' := Aside0.mk H
          clear H
          go_wp2
          go_meet
          case rel => exact ⟨_, (false), zz4, H', ⟨by have := HK1.out; first | omega | exact Nat.le_refl _⟩, ⟨zz10⟩, ⟨zz20⟩⟩
        rw [if_pos c5] at H
        have c5b0 := decide_eq_true c5
        clear c5
        (first | rw [c5b0] | (simp only [i64_w, i32_w]; rw [c5b0]) | skip)
        have H' := Aside0.mk H
        clear H
        obtain ⟨Ao6, co6, eo6⟩ := Kd.R_slice HO_4.out
        subst eo6
        go_wp2
        go_meet
        case rel => exact ⟨_, (decide ((x4_1.length : Int) < 60)), zz4, H', ⟨by have := HK1.out; first | omega | exact Nat.le_refl _⟩, ⟨zz10⟩, ⟨zz20⟩⟩
      case rest =>
        clear HC4
        try clear p2
        try clear c5
        try clear c5b0
        try clear p2
        obtain ⟨kq, x18_3, rfl, HA, HJ3, HO_4, HB⟩ := hcut
        cases kq with
        | zero => exact absurd HA.out (by simp [spec_l27Open.j1])
        | succ kj3 =>
          have H := HA.out
          clear HA
          simp only [spec_l27Open.j1] at H
          by_cases c7 : x18_3 = true
          rotate_left
          · replace c7 := Bool.eq_false_iff.mpr c7
            subst c7
            rw [if_neg (show ¬ (false = true) by decide)] at H
            simp only [Option.some.injEq, Prod.mk.injEq] at H
            obtain ⟨rfl, rfl⟩ := H
            go_wp2
            go_ret2
            exact ⟨_, zz9, zz10, zz20⟩
          subst c7
          rw [if_pos rfl] at H
          by_cases c8 : 0 ≤ x5_1
          rotate_left
          · rw [if_neg c8] at H
            exact absurd H (by simp)
          rw [if_pos c8] at H
          have c8b0 := eq_true c8
          have c8b1 := decide_eq_true c8
          clear c8
          by_cases c9 : x5_1 ≤ (a0.size : Int)
          rotate_left
          · rw [if_neg c9] at H
            exact absurd H (by simp)
          rw [if_pos c9] at H
          have c9b0 := eq_true c9
          have c9b1 := decide_eq_true c9
          clear c9
          replace H := Option.bind_eq_some_iff.mp H
          obtain ⟨t159, A100, H⟩ := H
          (try dsimp only at H)
          have A10 := Aside0.mk A100
          clear A100
          by_cases c11 : 0 < (t159.length : Int)
          rotate_left
          · rw [if_neg c11] at H
            exact absurd H (by simp)
          rw [if_pos c11] at H
          have c11b0 := decide_eq_true c11
          have c11b1 : decide (0 < t159.length) = true := decide_eq_true (by omega)
          clear c11
          replace H := Option.bind_eq_some_iff.mp H
          obtain ⟨⟨t163, t164, t165⟩, A120, H⟩ := H
          (try dsimp only at H)
          have A12 := Aside0.mk A120
          clear A120
          by_cases c13 : (t159.length : Int) < 2
          · rw [if_pos c13] at H
            have c13b0 := decide_eq_true c13
            have c13b1 : decide (t159.length < 2) = true := decide_eq_true (by omega)
            clear c13
            simp only [Option.some.injEq, Prod.mk.injEq] at H
            obtain ⟨rfl, rfl⟩ := H
            go_wp2_with (first | ((with_reducible refine gate_callee (f := 90) rfl ?_); refine qcall 22 Tryd.func90 rfl #[.string (subs a0 (x5_1 : Int).toNat a0.size), .int .u8 10] ?_; (with_reducible refine (spec_l1Split.calls kj3 (subs a0 (x5_1 : Int).toNat a0.size) 10 t159 _ A10.out).mono ?_); rintro e w14 ⟨v160, rfl, ho0, hb⟩; refine ⟨_, rfl, ?_⟩; refine qs3 (Kd.R_below (qr HO_4.out) hb) (Kd.R_lower ho0 (below_size zz20)) (below_step zz20 hb) ?_; clear HO_4 HB; intro HO_4 HO161 HB; (try clear hb); (try clear hb2); (try clear hk); (try clear hi); (try clear ho0); obtain ⟨Ao15, co15, eo15⟩ := Kd.R_slice HO161.out; subst eo15; have p162 : 0 ≤ (0 : Int) := (by omega); have q162 : 0 < (t159.length : Int) := of_decide_eq_true zz5; obtain ⟨ad162, e162, hx162_0⟩ := Kd.at_string (Kd.R_reads' HO161.out).2.2 0 p162 q162; cases e162; have qi162 : (0 < t159.length) = True := eq_true (by omega); (try rw [show ((0 : Int)).toNat = 0 from rfl] at hx162_0); (try rw [Addr.add_zero'] at hx162_0); replace p162 := eq_true p162; replace q162 := eq_true q162; obtain ⟨Ao16, co16, eo16⟩ := Kd.R_slice HO_4.out; subst eo16) | ((with_reducible refine gate_callee (f := 91) rfl ?_); refine qcall 29 Tryd.func91 rfl #[.string (rdOf ByteArray.empty t159 0), .int .i64 (x4_1.length : Int)] ?_; (with_reducible refine (spec_l27Read.calls kj3 (rdOf ByteArray.empty t159 0) (x4_1.length : Int) t163 t164 t165 _ A12.out).mono ?_); rintro e w17 ⟨rfl, hb⟩; refine ⟨_, rfl, ?_⟩; refine qs3 (Kd.R_below (qr HO_4.out) hb) (Kd.R_below (qr HO161.out) hb) (below_step zz20 hb) ?_; clear HO_4 HO161 HB; intro HO_4 HO161 HB; (try clear hb); (try clear hb2); (try clear hk); (try clear hi)) | ((with_reducible refine gate_dst (N := 7) rfl ?_); (try (refine gate_guard (by rfl) ?_; dsimp only)); refine qbox (N := 7) (cs := #[.string (⟨#[]⟩ : ByteArray), .string (⟨#[]⟩ : ByteArray)]) (t := 127) ?_; intro gb166 hg w18 hbox hb; refine qs6 (Kd.R_below (Kd.R_elderB (qr HO_4.out) gb166 (Nat.le_of_eq hg.symm)) hb) (Kd.R_below (qr HO161.out) hb) (below_step zz20 hb) (hbox) ((zz87 : w.heap.size ≤ gb166)) ((zz87 : w.heap.size ≤ gb166)) ?_; clear HO_4 HO161 HB; intro HO_4 HO161 HB BK166 GW166 GE166; clear hb hbox hg; obtain ⟨hcz19_0, hcz19_1, hfz19_0, hfz19_1⟩ := qc2 BK166.out))
            go_ret2
            exact ⟨_, zz9, zz74, zz41⟩
          rw [if_neg c13] at H
          have c13b0 := decide_eq_false c13
          have c13b1 : decide (t159.length < 2) = false := decide_eq_false (by omega)
          clear c13
          by_cases c20 : t165 = true
          rotate_left
          · replace c20 := Bool.eq_false_iff.mpr c20
            subst c20
            rw [if_neg (show ¬ (false = true) by decide)] at H
            simp only [Option.some.injEq, Prod.mk.injEq] at H
            obtain ⟨rfl, rfl⟩ := H
            go_wp2_with (first | ((with_reducible refine gate_callee (f := 90) rfl ?_); refine qcall 22 Tryd.func90 rfl #[.string (subs a0 (x5_1 : Int).toNat a0.size), .int .u8 10] ?_; (with_reducible refine (spec_l1Split.calls kj3 (subs a0 (x5_1 : Int).toNat a0.size) 10 t159 _ A10.out).mono ?_); rintro e w29 ⟨v160, rfl, ho0, hb⟩; refine ⟨_, rfl, ?_⟩; refine qs3 (Kd.R_below (qr HO_4.out) hb) (Kd.R_lower ho0 (below_size zz20)) (below_step zz20 hb) ?_; clear HO_4 HB; intro HO_4 HO161 HB; (try clear hb); (try clear hb2); (try clear hk); (try clear hi); (try clear ho0); obtain ⟨Ao30, co30, eo30⟩ := Kd.R_slice HO161.out; subst eo30; have p162 : 0 ≤ (0 : Int) := (by omega); have q162 : 0 < (t159.length : Int) := of_decide_eq_true zz5; obtain ⟨ad162, e162, hx162_0⟩ := Kd.at_string (Kd.R_reads' HO161.out).2.2 0 p162 q162; cases e162; have qi162 : (0 < t159.length) = True := eq_true (by omega); (try rw [show ((0 : Int)).toNat = 0 from rfl] at hx162_0); (try rw [Addr.add_zero'] at hx162_0); replace p162 := eq_true p162; replace q162 := eq_true q162; obtain ⟨Ao31, co31, eo31⟩ := Kd.R_slice HO_4.out; subst eo31) | ((with_reducible refine gate_callee (f := 91) rfl ?_); refine qcall 29 Tryd.func91 rfl #[.string (rdOf ByteArray.empty t159 0), .int .i64 (x4_1.length : Int)] ?_; (with_reducible refine (spec_l27Read.calls kj3 (rdOf ByteArray.empty t159 0) (x4_1.length : Int) t163 t164 false _ A12.out).mono ?_); rintro e w32 ⟨rfl, hb⟩; refine ⟨_, rfl, ?_⟩; refine qs3 (Kd.R_below (qr HO_4.out) hb) (Kd.R_below (qr HO161.out) hb) (below_step zz20 hb) ?_; clear HO_4 HO161 HB; intro HO_4 HO161 HB; (try clear hb); (try clear hb2); (try clear hk); (try clear hi)) | ((with_reducible refine gate_dst (N := 7) rfl ?_); (try (refine gate_guard (by rfl) ?_; dsimp only)); refine qbox (N := 7) (cs := #[.string (⟨#[]⟩ : ByteArray), .string (⟨#[]⟩ : ByteArray)]) (t := 127) ?_; intro gb166 hg w33 hbox hb; refine qs6 (Kd.R_below (Kd.R_elderB (qr HO_4.out) gb166 (Nat.le_of_eq hg.symm)) hb) (Kd.R_below (qr HO161.out) hb) (below_step zz20 hb) (hbox) ((zz87 : w.heap.size ≤ gb166)) ((zz87 : w.heap.size ≤ gb166)) ?_; clear HO_4 HO161 HB; intro HO_4 HO161 HB BK166 GW166 GE166; clear hb hbox hg; obtain ⟨hcz34_0, hcz34_1, hfz34_0, hfz34_1⟩ := qc2 BK166.out))
            go_ret2
            exact ⟨_, zz9, zz74, zz41⟩
          subst c20
          rw [if_pos rfl] at H
          by_cases c21 : x4_1.length < 4398046511104
          rotate_left
          · rw [if_neg c21] at H
            exact absurd H (by simp)
          rw [if_pos c21] at H
          have LMc21 := Aside0.mk c21
          clear c21
          obtain ⟨y167, hy167⟩ : ∃ y_ : List (S127), y_ = (x4_1 ++ [(⟨t163, t164⟩ : S127)]) := ⟨_, rfl⟩
          replace H : (spec_l27Open.l0 kj3 a0 y167 (wrap64 ((wrap64 (x5_1 + ((rdOf ByteArray.empty t159 0).size : Int))) + 1))) = some (r1, r2) := by first | (rw [hy167]; with_reducible exact H) | (have H2_ := (Option.bind_some _ _).symm.trans H; rw [hy167]; with_reducible exact H2_) | (have H2_ := (Option.bind_some _ _).symm.trans H; with_reducible exact H2_) | with_reducible exact H | (rw [hy167]; exact H) | exact H
          have Ny167 := Aside0.mk hy167
          clear hy167
          have H' := Aside0.mk H
          clear H
          go_wp2_with (first | ((with_reducible refine gate_callee (f := 90) rfl ?_); refine qcall 22 Tryd.func90 rfl #[.string (subs a0 (x5_1 : Int).toNat a0.size), .int .u8 10] ?_; (with_reducible refine (spec_l1Split.calls kj3 (subs a0 (x5_1 : Int).toNat a0.size) 10 t159 _ A10.out).mono ?_); rintro e w22 ⟨v160, rfl, ho0, hb⟩; refine ⟨_, rfl, ?_⟩; refine qs3 (Kd.R_below (qr HO_4.out) hb) (Kd.R_lower ho0 (below_size zz20)) (below_step zz20 hb) ?_; clear HO_4 HB; intro HO_4 HO161 HB; (try clear hb); (try clear hb2); (try clear hk); (try clear hi); (try clear ho0); obtain ⟨Ao23, co23, eo23⟩ := Kd.R_slice HO161.out; subst eo23; have p162 : 0 ≤ (0 : Int) := (by omega); have q162 : 0 < (t159.length : Int) := of_decide_eq_true zz5; obtain ⟨ad162, e162, hx162_0⟩ := Kd.at_string (Kd.R_reads' HO161.out).2.2 0 p162 q162; cases e162; have qi162 : (0 < t159.length) = True := eq_true (by omega); (try rw [show ((0 : Int)).toNat = 0 from rfl] at hx162_0); (try rw [Addr.add_zero'] at hx162_0); replace p162 := eq_true p162; replace q162 := eq_true q162; obtain ⟨Ao24, co24, eo24⟩ := Kd.R_slice HO_4.out; subst eo24) | ((with_reducible refine gate_callee (f := 91) rfl ?_); refine qcall 29 Tryd.func91 rfl #[.string (rdOf ByteArray.empty t159 0), .int .i64 (x4_1.length : Int)] ?_; (with_reducible refine (spec_l27Read.calls kj3 (rdOf ByteArray.empty t159 0) (x4_1.length : Int) t163 t164 true _ A12.out).mono ?_); rintro e w25 ⟨rfl, hb⟩; refine ⟨_, rfl, ?_⟩; refine qs3 (Kd.R_below (qr HO_4.out) hb) (Kd.R_below (qr HO161.out) hb) (below_step zz20 hb) ?_; clear HO_4 HO161 HB; intro HO_4 HO161 HB; (try clear hb); (try clear hb2); (try clear hk); (try clear hi)) | ((with_reducible refine gate_dst (N := 7) rfl ?_); (try (refine gate_guard (by rfl) ?_; dsimp only)); refine qbox (N := 7) (cs := #[.string (⟨#[]⟩ : ByteArray), .string (⟨#[]⟩ : ByteArray)]) (t := 127) ?_; intro gb166 hg w26 hbox hb; refine qs6 (Kd.R_below (Kd.R_elderB (qr HO_4.out) gb166 (Nat.le_of_eq hg.symm)) hb) (Kd.R_below (qr HO161.out) hb) (below_step zz20 hb) (hbox) ((zz87 : w.heap.size ≤ gb166)) ((zz87 : w.heap.size ≤ gb166)) ?_; clear HO_4 HO161 HB; intro HO_4 HO161 HB BK166 GW166 GE166; clear hb hbox hg; obtain ⟨hcz27_0, hcz27_1, hfz27_0, hfz27_1⟩ := qc2 BK166.out) | ((with_reducible refine gate_builtin (b := .append) (xs := #[.tmp 39, .tmp 41]) rfl ?_); (try (refine gate_guard (by rfl) ?_; dsimp only)); at_builtin; refine Kd.R_append k127 (w0 := w) w.heap.size rfl (.tmp 39) (.tmp 41) 102 127 (.agg #[(.string ⟨#[]⟩), (.string ⟨#[]⟩)]) 32 rfl Tryd.underlying102 info127 rfl (by decide) (by omega) (.slice Ao24 x4_1.length co24) x4_1 (⟨t163, t164⟩ : S127) [.string t163, .string t164] (fun k_ => k_ ≠ gb166) (fun _ => False) rfl zz3 ?aP (fun _ hk => hk.elim) ?aF ?aO ?aB ?aS ?aL ?_; (case aP => exact k127_mkM _ _ _ (⟨t163, t164⟩ : S127)); (case aB => exact zz41); (case aF => exact (fun k_ hk => Kd.freshB (g := gb166) (o := .cells #[.string t163, .string t164] 127 (0, 0)) zz76 k_ hk)); (case aO => exact (by (with_reducible repeat (first | apply Kd.R_alloc | apply Kd.R_drewN | apply Kd.R_drew)); exact Kd.R_mono (Kd.R_far (p := ⟨gb166, 1, none⟩) (Kd.R_far (p := ⟨gb166, 0, none⟩) (Kd.R_mono HO_4.out (fun k_ hk => (⟨hk, hk.2⟩ : _ ∧ k_ ≠ gb166))) (fun _ hk => hk.2) (.string t163)) (fun _ hk => hk.2) (.string t164)) (fun _ hk => hk.1.2))); (case aS => exact (below_size zz41)); (case aL => have := LMc21.out; omega); intro v168 w28 ho hb hg hat; rw [← Ny167.out] at ho; refine qs4 (Kd.R_over' (by (with_reducible repeat (first | apply Kd.R_alloc | apply Kd.R_drewN | apply Kd.R_drew)); exact (Kd.R_mono (Kd.R_far (p := ⟨gb166, 1, none⟩) (Kd.R_far (p := ⟨gb166, 0, none⟩) (Kd.R_types HO161.out BK166.out (by decide)) (fun _ hk => hk.2) (.string t163)) (fun _ hk => hk.2) (.string t164)) (fun _ h_ => h_.1))) (Kd.R_typed (by (with_reducible repeat (first | apply Kd.R_alloc | apply Kd.R_drewN | apply Kd.R_drew)); exact (Kd.R_mono (Kd.R_far (p := ⟨gb166, 1, none⟩) (Kd.R_far (p := ⟨gb166, 0, none⟩) (Kd.R_mono HO_4.out (fun k_ hk => (⟨hk, hk.2⟩ : _ ∧ k_ ≠ gb166))) (fun _ hk => hk.2) (.string t163)) (fun _ hk => hk.2) (.string t164)) (fun _ h_ => h_.1)))) (by decide) hg) (blk_grown (g := gb166) (o := .cells #[.string t163, .string t164] 127 (0, 0)) zz76 hg (Kd.R_away HO_4.out (fun _ hk => hk.2))) (hb) (ho) ?_; clear HO161 BK166 HB HO_4; intro HO161 BK166 HB HO169; clear ho hb hg hat; have p170 : 0 ≤ (0 : Int) := (by omega); have q170 : 0 < (t159.length : Int) := of_decide_eq_true zz5; obtain ⟨ad170, e170, hx170_0⟩ := Kd.at_string (Kd.R_reads' HO161.out).2.2 0 p170 q170; obtain rfl : ad162 = ad170 := (by injection e170); have qi170 : (0 < t159.length) = True := eq_true (by omega); (try rw [show ((0 : Int)).toNat = 0 from rfl] at hx170_0); (try rw [Addr.add_zero'] at hx170_0); replace p170 := eq_true p170; replace q170 := eq_true q170))
          go_roundg kj3
          case measure => have := HK1.out; have := HJ3.out; omega
          case rel => exact ⟨(y167), (wrap64 ((wrap64 (x5_1 + ((rdOf ByteArray.empty t159 0).size : Int))) + 1)), zz4, H', ⟨by have := HK1.out; have := HJ3.out; omega⟩, ⟨by (with_reducible repeat (first | apply Kd.R_alloc | apply Kd.R_drewN | apply Kd.R_drew)); exact Kd.R_mono HO169.out (fun _ hk => trivial)⟩, ⟨zz41⟩⟩

end

section
attribute [local go_sem high] run_add_cat run_slice_cat run_slice_cat_h run_slice_cat_l run_slice_cat_all
/-! ### spec_l27Log: function 71 -/
def spec_l27Log.j0 : Nat → Bool → Option (Bool)
  | 0, _ => none
  | k + 1, x2 => some x2
def spec_l27Log.f (k : Nat) (a0_0 : ByteArray) (a0_1 : ByteArray) (a0_2 : Int) : Option (Bool) := if (wrap64 ((a0_0.size : Int) + (a0_1.size : Int))) > 30000 then (some false) else (if a0_0.size + a0_1.size ≤ 9223372036854775807 then ((spec_l27Open.f k (cat a0_0 a0_1)).bind fun bt172 => ((spec_l27Open.f k a0_0).bind fun bt176 => (if bt172.2 = (wrap64 ((a0_0.size : Int) + (a0_1.size : Int))) then (if bt176.2 = (a0_0.size : Int) then (spec_l27Log.j0 k ((bt172.1.length : Int) == a0_2)) else (spec_l27Log.j0 k false)) else (spec_l27Log.j0 k false)))) else (none))
set_option maxHeartbeats 8000000 in
set_option maxRecDepth 100000 in
theorem spec_l27Log.calls (k : Nat) (a0_0 : ByteArray) (a0_1 : ByteArray) (a0_2 : Int) (r : Bool) (w : World) (h : spec_l27Log.f k a0_0 a0_1 a0_2 = some r) :
    Calls Tryd.prog 71 #[.agg #[.string a0_0, .string a0_1, .int .i64 a0_2]] w fun e w' => e = .returned (.bool r) ∧ Below w.heap.size w w' := by
  have hu52 := Tryd.underlying52
  have HB := Aside0.mk (Below.refl w.heap.size w)
  unfold spec_l27Log.f at h
  have H := h
  clear h
  by_cases c2 : (wrap64 ((a0_0.size : Int) + (a0_1.size : Int))) > 30000
  · rw [if_pos c2] at H
    have c2b0 := decide_eq_true c2
    clear c2
    obtain rfl := Option.some.inj H
    go_enter Tryd.func71, Tryd.ntmps71
    go_wp2_with (first | ((with_reducible refine gate_dst (N := 1) rfl ?_); (try (refine gate_guard (by rfl) ?_; dsimp only)); refine qbox (N := 1) (cs := #[.string a0_0, .string a0_1, .int .i64 a0_2]) (t := 52) ?_; intro gb171 hg w3 hbox hb; refine qs4 (below_step zz20 hb) (hbox) ((zz87 : w.heap.size ≤ gb171)) ((zz87 : w.heap.size ≤ gb171)) ?_; clear HB; intro HB BK171 GW171 GE171; clear hb hbox hg; obtain ⟨hcz4_0, hcz4_1, hcz4_2, hfz4_0, hfz4_1, hfz4_2⟩ := qc3 BK171.out))
    go_ret
    exact ⟨zz9, zz36⟩
  rw [if_neg c2] at H
  have c2b0 := decide_eq_false c2
  clear c2
  by_cases c5 : a0_0.size + a0_1.size ≤ 9223372036854775807
  rotate_left
  · rw [if_neg c5] at H
    exact absurd H (by simp)
  rw [if_pos c5] at H
  have c5b0 := eq_true c5
  have c5b1 := decide_eq_true c5
  try have c5b2 := eq_false (Nat.not_lt.2 c5)
  clear c5
  replace H := Option.bind_eq_some_iff.mp H
  obtain ⟨⟨t172, t173⟩, A60, H⟩ := H
  (try dsimp only at H)
  have A6 := Aside0.mk A60
  clear A60
  replace H := Option.bind_eq_some_iff.mp H
  obtain ⟨⟨t176, t177⟩, A70, H⟩ := H
  (try dsimp only at H)
  have A7 := Aside0.mk A70
  clear A70
  have HC8 := Aside0.mk H
  clear H
  go_enter Tryd.func71, Tryd.ntmps71
  go_upto_region 5 with (first | ((with_reducible refine gate_dst (N := 1) rfl ?_); (try (refine gate_guard (by rfl) ?_; dsimp only)); refine qbox (N := 1) (cs := #[.string a0_0, .string a0_1, .int .i64 a0_2]) (t := 52) ?_; intro gb171 hg w9 hbox hb; refine qs4 (below_step zz20 hb) (hbox) ((zz87 : w.heap.size ≤ gb171)) ((zz87 : w.heap.size ≤ gb171)) ?_; clear HB; intro HB BK171 GW171 GE171; clear hb hbox hg; obtain ⟨hcz10_0, hcz10_1, hcz10_2, hfz10_0, hfz10_1, hfz10_2⟩ := qc3 BK171.out) | ((with_reducible refine gate_callee (f := 82) rfl ?_); refine qcall 21 Tryd.func82 rfl #[.string (cat a0_0 a0_1)] ?_; (with_reducible refine (spec_l27Open.calls k (cat a0_0 a0_1) t172 t173 _ A6.out).mono ?_); rintro e w11 ⟨v174, rfl, ho0, hb⟩; refine ⟨_, rfl, ?_⟩; refine qs3 (Kd.R_lower ho0 (below_size zz36)) (blk_below (qb BK171.out) hb) (below_step zz36 hb) ?_; clear BK171 HB; intro HO175 BK171 HB; (try clear hb); (try clear hb2); (try clear hk); (try clear hi); (try clear ho0); obtain ⟨hcz12_0, hcz12_1, hcz12_2, hfz12_0, hfz12_1, hfz12_2⟩ := qc3 BK171.out) | ((with_reducible refine gate_callee (f := 82) rfl ?_); refine qcall 27 Tryd.func82 rfl #[.string a0_0] ?_; (with_reducible refine (spec_l27Open.calls k a0_0 t176 t177 _ A7.out).mono ?_); rintro e w13 ⟨v178, rfl, ho0, hb⟩; refine ⟨_, rfl, ?_⟩; refine qs4 (Kd.R_elder' (qr HO175.out) (Kd.R_base ho0) hb) (Kd.R_lower (Kd.R_new' ho0 (Kd.R_lt (qr HO175.out))) (below_size zz36)) (blk_below (qb BK171.out) hb) (below_step zz36 hb) ?_; clear HO175 BK171 HB; intro HO175 HO179 BK171 HB; (try clear hb); (try clear hb2); (try clear hk); (try clear hi); (try clear ho0)))
  (try simp only [Act.put, List.setIfInBounds_toArray, List.set_cons_zero, List.set_cons_succ])
  go_cut [2] (fun v2 wc => ∃ (kq : Nat) (x2_7 : Bool), v2 = .bool x2_7 ∧ Aside0 (spec_l27Log.j0 kq x2_7 = some r) ∧ Aside0 (kq ≤ k) ∧ Aside0 (wc.heap[gb171]? = some (.cells #[.string a0_0, .string a0_1, .int .i64 a0_2] 52 (0, 0))) ∧ Aside0 (Below w.heap.size w wc))
  case first =>
    have H := HC8.out
    clear HC8
    by_cases c14 : t173 = (wrap64 ((a0_0.size : Int) + (a0_1.size : Int)))
    rotate_left
    · rw [if_neg c14] at H
      have c14b0 := beq_eq_false_iff_ne.mpr c14
      have c14b1 := bne_iff_ne.mpr c14
      (first | rw [c14b0] | (simp only [i64_w, i32_w]; rw [c14b0]) | skip)
      have H' := Aside0.mk H
      clear H
      obtain ⟨hcz19_0, hcz19_1, hcz19_2, hfz19_0, hfz19_1, hfz19_2⟩ := qc3 BK171.out
      go_wp2
      go_meet
      case rel => exact ⟨_, (false), zz4, H', ⟨zz2⟩, ⟨zz18⟩, ⟨zz36⟩⟩
    rw [if_pos c14] at H
    have c14b0 := beq_iff_eq.mpr c14
    have c14b1 := bne_eq_false_iff_eq.mpr c14
    clear c14
    (first | rw [c14b0] | (simp only [i64_w, i32_w]; rw [c14b0]) | skip)
    by_cases c15 : t177 = (a0_0.size : Int)
    rotate_left
    · rw [if_neg c15] at H
      have c15b0 := beq_eq_false_iff_ne.mpr c15
      have c15b1 := bne_iff_ne.mpr c15
      have H' := Aside0.mk H
      clear H
      obtain ⟨hcz18_0, hcz18_1, hcz18_2, hfz18_0, hfz18_1, hfz18_2⟩ := qc3 BK171.out
      go_wp2
      go_meet
      case rel => exact ⟨_, (false), zz4, H', ⟨zz2⟩, ⟨zz18⟩, ⟨zz36⟩⟩
    rw [if_pos c15] at H
    have c15b0 := beq_iff_eq.mpr c15
    have c15b1 := bne_eq_false_iff_eq.mpr c15
    clear c15
    have H' := Aside0.mk H
    clear H
    obtain ⟨hcz16_0, hcz16_1, hcz16_2, hfz16_0, hfz16_1, hfz16_2⟩ := qc3 BK171.out
    obtain ⟨Ao17, co17, eo17⟩ := Kd.R_slice HO175.out
    subst eo17
    go_wp2
    go_meet
    case rel => exact ⟨_, (((t172.length : Int) == a0_2)), zz4, H', ⟨zz2⟩, ⟨zz18⟩, ⟨zz36⟩⟩
  case rest =>
    clear HC8
    try clear c1
    try clear c2
    try clear c2b0
    try clear p2
    try clear c5
    try clear c5b0
    try clear c5b1
    try clear c5b2
    try clear p6
    try clear c7
    try clear c8
    try clear c14
    try clear c14b0
    try clear c14b1
    try clear c15
    try clear c15b0
    try clear c15b1
    try clear hcz10_0
    try clear hcz10_1
    try clear hcz10_2
    try clear hcz12_0
    try clear hcz12_1
    try clear hcz12_2
    try clear hcz16_0
    try clear hcz16_1
    try clear hcz16_2
    try clear hcz18_0
    try clear hcz18_1
    try clear hcz18_2
    try clear hcz19_0
    try clear hcz19_1
    try clear hcz19_2
    try clear hcz4_0
    try clear hcz4_1
    try clear hcz4_2
    try clear hfz10_0
    try clear hfz10_1
    try clear hfz10_2
    try clear hfz12_0
    try clear hfz12_1
    try clear hfz12_2
    try clear hfz16_0
    try clear hfz16_1
    try clear hfz16_2
    try clear hfz18_0
    try clear hfz18_1
    try clear hfz18_2
    try clear hfz19_0
    try clear hfz19_1
    try clear hfz19_2
    try clear hfz4_0
    try clear hfz4_1
    try clear hfz4_2
    obtain ⟨kq, x2_7, rfl, HA, HJ7, BK171, HB⟩ := hcut
    cases kq with
    | zero => exact absurd HA.out (by simp [spec_l27Log.j0])
    | succ kj7 =>
      have H := HA.out
      clear HA
      simp only [spec_l27Log.j0] at H
      obtain rfl := Option.some.inj H
      go_wp2
      go_ret
      exact ⟨zz9, zz36⟩

end

/-! ### spec_l28Good: function 46 -/
def spec_l28Good.f (k : Nat) (a0_0 : Int) (a0_1 : Int) (l0_2 : List (S62)) (a0_3 : Int) (a0_4 : ByteArray) (a0_5 : ByteArray) (a0_6 : Int) : Option (Bool) := (spec_l25Good.f k a0_0 a0_1 l0_2 a0_3).bind fun t181 => (if t181 = true then ((spec_l27Log.f k a0_4 a0_5 a0_6).bind fun t182 => (some t182)) else (some false))
set_option maxHeartbeats 8000000 in
set_option maxRecDepth 100000 in
theorem spec_l28Good.calls (k : Nat) (a0_0 : Int) (a0_1 : Int) (A0_2 : Option Addr) (c0_2 : Nat) (l0_2 : List (S62)) (a0_3 : Int) (a0_4 : ByteArray) (a0_5 : ByteArray) (a0_6 : Int) (r : Bool) (w : World) (hr0_2 : Kd.C k62 w A0_2 l0_2.length l0_2) (hc0_2 : l0_2.length ≤ c0_2) (h : spec_l28Good.f k a0_0 a0_1 l0_2 a0_3 a0_4 a0_5 a0_6 = some r) :
    Calls Tryd.prog 46 #[.agg #[.int .i64 a0_0, .int .i64 a0_1, .slice A0_2 l0_2.length c0_2, .int .i64 a0_3, .string a0_4, .string a0_5, .int .i64 a0_6]] w fun e w' => e = .returned (.bool r) ∧ Below w.heap.size w w' := by
  have hu54 := Tryd.underlying54
  have hu26 := Tryd.underlying26
  have hu52 := Tryd.underlying52
  have HR0_2 := Aside0.mk hr0_2
  have HC0_2 := Aside0.mk hc0_2
  clear hr0_2 hc0_2
  have HB := Aside0.mk (Below.refl w.heap.size w)
  unfold spec_l28Good.f at h
  have H := h
  clear h
  replace H := Option.bind_eq_some_iff.mp H
  obtain ⟨t181, A20, H⟩ := H
  (try dsimp only at H)
  have A2 := Aside0.mk A20
  clear A20
  by_cases c3 : t181 = true
  rotate_left
  · replace c3 := Bool.eq_false_iff.mpr c3
    subst c3
    rw [if_neg (show ¬ (false = true) by decide)] at H
    obtain rfl := Option.some.inj H
    go_enter Tryd.func46, Tryd.ntmps46
    go_wp2_with (first | ((with_reducible refine gate_dst (N := 1) rfl ?_); refine qbox (N := 1) (cs := #[.int .i64 a0_0, .int .i64 a0_1, .slice A0_2 l0_2.length c0_2, .int .i64 a0_3, .string a0_4, .string a0_5, .int .i64 a0_6]) (t := 54) ?_; intro gb180 hg w10 hbox hb; refine qs4 (below_step zz20 hb) (hbox) ((zz87 : w.heap.size ≤ gb180)) ((zz87 : w.heap.size ≤ gb180)) ?_; clear HB; intro HB BK180 GW180 GE180; clear hb hbox hg; obtain ⟨hcz11_0, hcz11_1, hcz11_2, hcz11_3, hcz11_4, hcz11_5, hcz11_6, hfz11_0, hfz11_1, hfz11_2, hfz11_3, hfz11_4, hfz11_5, hfz11_6⟩ := qc7 BK180.out) | ((with_reducible refine gate_callee (f := 34) rfl ?_); refine qcall 5 Tryd.func34 rfl #[.agg #[.int .i64 a0_0, .int .i64 a0_1, .slice A0_2 l0_2.length c0_2, .int .i64 a0_3]] ?_; (with_reducible refine (spec_l25Good.calls k a0_0 a0_1 _ _ l0_2 a0_3 false _ ?side1 ?side2 A2.out).mono ?_); (case side1 => exact zz54); (case side2 => exact zz0); rintro e w12 ⟨rfl, hb⟩; refine ⟨_, rfl, ?_⟩; refine qs2 (blk_below (qb BK180.out) hb) (below_step zz42 hb) ?_; clear BK180 HB; intro BK180 HB; (try clear hb); (try clear hb2); (try clear hk); (try clear hi)))
    go_ret
    exact ⟨zz9, zz42⟩
  subst c3
  rw [if_pos rfl] at H
  replace H := Option.bind_eq_some_iff.mp H
  obtain ⟨t182, A40, H⟩ := H
  replace H : (some t182) = some r := H
  have A4 := Aside0.mk A40
  clear A40
  obtain rfl := Option.some.inj H
  go_enter Tryd.func46, Tryd.ntmps46
  go_wp2_with (first | ((with_reducible refine gate_dst (N := 1) rfl ?_); refine qbox (N := 1) (cs := #[.int .i64 a0_0, .int .i64 a0_1, .slice A0_2 l0_2.length c0_2, .int .i64 a0_3, .string a0_4, .string a0_5, .int .i64 a0_6]) (t := 54) ?_; intro gb180 hg w5 hbox hb; refine qs4 (below_step zz20 hb) (hbox) ((zz87 : w.heap.size ≤ gb180)) ((zz87 : w.heap.size ≤ gb180)) ?_; clear HB; intro HB BK180 GW180 GE180; clear hb hbox hg; obtain ⟨hcz6_0, hcz6_1, hcz6_2, hcz6_3, hcz6_4, hcz6_5, hcz6_6, hfz6_0, hfz6_1, hfz6_2, hfz6_3, hfz6_4, hfz6_5, hfz6_6⟩ := qc7 BK180.out) | ((with_reducible refine gate_callee (f := 34) rfl ?_); refine qcall 5 Tryd.func34 rfl #[.agg #[.int .i64 a0_0, .int .i64 a0_1, .slice A0_2 l0_2.length c0_2, .int .i64 a0_3]] ?_; (with_reducible refine (spec_l25Good.calls k a0_0 a0_1 _ _ l0_2 a0_3 true _ ?side1 ?side2 A2.out).mono ?_); (case side1 => exact zz54); (case side2 => exact zz0); rintro e w7 ⟨rfl, hb⟩; refine ⟨_, rfl, ?_⟩; refine qs2 (blk_below (qb BK180.out) hb) (below_step zz42 hb) ?_; clear BK180 HB; intro BK180 HB; (try clear hb); (try clear hb2); (try clear hk); (try clear hi); obtain ⟨hcz8_0, hcz8_1, hcz8_2, hcz8_3, hcz8_4, hcz8_5, hcz8_6, hfz8_0, hfz8_1, hfz8_2, hfz8_3, hfz8_4, hfz8_5, hfz8_6⟩ := qc7 BK180.out) | (go_at_call 71; (with_reducible refine (spec_l27Log.calls k a0_4 a0_5 a0_6 t182 _ A4.out).mono ?_); rintro e w9 ⟨rfl, hb⟩; refine qs2 (blk_below (qb BK180.out) hb) (below_step zz42 hb) ?_; clear BK180 HB; intro BK180 HB; (try clear hb); (try clear hb2); (try clear hk); (try clear hi)))
  go_ret
  exact ⟨zz9, zz42⟩


/-! ### spec_IsValidConsole: function 25 -/
/-! ### laws_toCarpet: function 83 -/
def laws_toCarpet.f (a0_0 : Int) (a0_1 : Int) (a0_2 : Int) (a0_3 : Int) (a0_4 : Int) : Option (Int × Int × Int × Int × Int) := some (a0_0, a0_1, a0_2, a0_3, a0_4)
set_option maxHeartbeats 8000000 in
set_option maxRecDepth 100000 in
theorem laws_toCarpet.calls (a0_0 : Int) (a0_1 : Int) (a0_2 : Int) (a0_3 : Int) (a0_4 : Int) (r1 : Int) (r2 : Int) (r3 : Int) (r4 : Int) (r5 : Int) (w : World) (h : laws_toCarpet.f a0_0 a0_1 a0_2 a0_3 a0_4 = some (r1, r2, r3, r4, r5)) :
    Calls Tryd.prog 83 #[.agg #[.int .i64 a0_0, .int .i64 a0_1, .int .i64 a0_2, .int .i64 a0_3, .int .i64 a0_4]] w fun e w' => e = .returned (.agg #[.int .i64 r1, .int .i64 r2, .int .i64 r3, .int .i64 r4, .int .i64 r5]) ∧ Below w.heap.size w w' := by
  have hu115 := Tryd.underlying115
  have hu62 := Tryd.underlying62
  have HB := Aside0.mk (Below.refl w.heap.size w)
  have H : (some (a0_0, a0_1, a0_2, a0_3, a0_4)) = some (r1, r2, r3, r4, r5) := h
  clear h
  simp only [Option.some.injEq, Prod.mk.injEq] at H
  obtain ⟨rfl, rfl, rfl, rfl, rfl⟩ := H
  go_enter Tryd.func83, Tryd.ntmps83
  go_wp2_with (first | ((with_reducible refine gate_dst (N := 1) rfl ?_); refine qbox (N := 1) (cs := #[.int .i64 a0_0, .int .i64 a0_1, .int .i64 a0_2, .int .i64 a0_3, .int .i64 a0_4]) (t := 115) ?_; intro gb185 hg w2 hbox hb; refine qs4 (below_step zz20 hb) (hbox) ((zz87 : w.heap.size ≤ gb185)) ((zz87 : w.heap.size ≤ gb185)) ?_; clear HB; intro HB BK185 GW185 GE185; clear hb hbox hg) | ((with_reducible refine gate_dst (N := 2) rfl ?_); refine qbox (N := 2) (cs := #[.int .i64 0, .int .i64 0, .int .i64 0, .int .i64 0, .int .i64 0]) (t := 62) ?_; intro gb186 hg w3 hbox hb; refine qs7 (blk_below (qb BK185.out) hb) (below_step zz48 hb) (hbox) ((by rw [hg]; exact (below_size zz48) : w.heap.size ≤ gb186)) ((by rw [hg]; exact (below_size zz48) : w.heap.size ≤ gb186)) ((by rw [hg]; exact Nat.ne_of_lt (blk_lt (qb BK185.out)) : gb185 ≠ gb186)) ((by rw [hg]; exact Nat.ne_of_gt (blk_lt (qb BK185.out)) : gb186 ≠ gb185)) ?_; clear BK185 HB; intro BK185 HB BK186 GW186 GE186 NB185_186 NB186_185; clear hb hbox hg) | ((with_reducible refine gate_dst (N := 3) rfl ?_); refine qbox (N := 3) (cs := #[.int .i64 0, .int .i64 0, .int .i64 0, .int .i64 0, .int .i64 0]) (t := 62) ?_; intro gb187 hg w4 hbox hb; refine qs10 (blk_below (qb BK185.out) hb) (blk_below (qb BK186.out) hb) (below_step zz66 hb) (hbox) ((by rw [hg]; exact (below_size zz66) : w.heap.size ≤ gb187)) ((by rw [hg]; exact (below_size zz66) : w.heap.size ≤ gb187)) ((by rw [hg]; exact Nat.ne_of_lt (blk_lt (qb BK185.out)) : gb185 ≠ gb187)) ((by rw [hg]; exact Nat.ne_of_gt (blk_lt (qb BK185.out)) : gb187 ≠ gb185)) ((by rw [hg]; exact Nat.ne_of_lt (blk_lt (qb BK186.out)) : gb186 ≠ gb187)) ((by rw [hg]; exact Nat.ne_of_gt (blk_lt (qb BK186.out)) : gb187 ≠ gb186)) ?_; clear BK185 BK186 HB; intro BK185 BK186 HB BK187 GW187 GE187 NB185_187 NB187_185 NB186_187 NB187_186; clear hb hbox hg; have hnb5 := NB185_186.out; have hnc5 := NB186_185.out; have hnb6 := NB185_187.out; have hnc6 := NB187_185.out; obtain ⟨hcz7_0, hcz7_1, hcz7_2, hcz7_3, hcz7_4, hfz7_0, hfz7_1, hfz7_2, hfz7_3, hfz7_4⟩ := qc5 BK185.out; have hnb8 := NB187_186.out; have hnc8 := NB186_187.out; obtain ⟨hcz9_0, hcz9_1, hcz9_2, hcz9_3, hcz9_4, hfz9_0, hfz9_1, hfz9_2, hfz9_3, hfz9_4⟩ := qc5 BK187.out; obtain ⟨hcz10_0, hcz10_1, hcz10_2, hcz10_3, hcz10_4, hfz10_0, hfz10_1, hfz10_2, hfz10_3, hfz10_4⟩ := qc5 BK186.out))
  refine bodyPost_ret (results_cell_row rfl _ _ gb186 62 #[.int .i64 a0_0, .int .i64 a0_1, .int .i64 a0_2, .int .i64 a0_3, .int .i64 a0_4] (0, 0) _ rfl (by (with_reducible repeat (first | refine blk_drewN ?_ _ | refine blk_drew ?_ | refine blk_alloc ?_ _)); refine blk_put (cs := #[.int .i64 a0_0, .int .i64 a0_1, .int .i64 a0_2, .int .i64 a0_3, .int .i64 0]) ?_ 4 _ rfl; (with_reducible repeat (first | refine blk_drewN ?_ _ | refine blk_drew ?_ | refine blk_alloc ?_ _)); refine blk_put (cs := #[.int .i64 a0_0, .int .i64 a0_1, .int .i64 a0_2, .int .i64 0, .int .i64 0]) ?_ 3 _ rfl; (with_reducible repeat (first | refine blk_drewN ?_ _ | refine blk_drew ?_ | refine blk_alloc ?_ _)); refine blk_put (cs := #[.int .i64 a0_0, .int .i64 a0_1, .int .i64 0, .int .i64 0, .int .i64 0]) ?_ 2 _ rfl; (with_reducible repeat (first | refine blk_drewN ?_ _ | refine blk_drew ?_ | refine blk_alloc ?_ _)); refine blk_put (cs := #[.int .i64 a0_0, .int .i64 0, .int .i64 0, .int .i64 0, .int .i64 0]) ?_ 1 _ rfl; (with_reducible repeat (first | refine blk_drewN ?_ _ | refine blk_drew ?_ | refine blk_alloc ?_ _)); refine blk_put (cs := #[.int .i64 0, .int .i64 0, .int .i64 0, .int .i64 0, .int .i64 0]) ?_ 0 _ rfl; (with_reducible repeat (first | refine blk_drewN ?_ _ | refine blk_drew ?_ | refine blk_alloc ?_ _)); refine blk_far ?_ NB186_187.out _; (with_reducible repeat (first | refine blk_drewN ?_ _ | refine blk_drew ?_ | refine blk_alloc ?_ _)); refine blk_far ?_ NB186_187.out _; (with_reducible repeat (first | refine blk_drewN ?_ _ | refine blk_drew ?_ | refine blk_alloc ?_ _)); refine blk_far ?_ NB186_187.out _; (with_reducible repeat (first | refine blk_drewN ?_ _ | refine blk_drew ?_ | refine blk_alloc ?_ _)); refine blk_far ?_ NB186_187.out _; (with_reducible repeat (first | refine blk_drewN ?_ _ | refine blk_drew ?_ | refine blk_alloc ?_ _)); refine blk_far ?_ NB186_187.out _; (with_reducible repeat (first | refine blk_drewN ?_ _ | refine blk_drew ?_ | refine blk_alloc ?_ _)); exact BK186.out) Tryd.underlying62 rfl (by kernel_rfl)) rfl ?_
  exact ⟨zz9, by repeat (first | (with_reducible first | exact HB.out | apply below_alloc | apply pw_below_drewN | apply below_drew1 | refine below_set ?_ GE185.out | refine below_set ?_ GE186.out | refine below_set ?_ GE187.out) | exact HB.out)⟩


/-! ### laws_toCarpetS: function 72 -/
def laws_toCarpetS.l0 : Nat → List (S115) → List (S62) → Int → Option ((List (S62)))
  | 0, _, _, _ => none
  | k + 1, x0, x3, x4 => if x4 < (x0.length : Int) then (if 0 ≤ x4 then ((laws_toCarpet.f ((rd_T115 x0 x4).f0) ((rd_T115 x0 x4).f1) ((rd_T115 x0 x4).f2) ((rd_T115 x0 x4).f3) ((rd_T115 x0 x4).f4)).bind fun bt192 => (if x4 < (x3.length : Int) then (laws_toCarpetS.l0 k x0 (x3.set (x4 : Int).toNat (⟨bt192.1, bt192.2.1, bt192.2.2.1, bt192.2.2.2.1, bt192.2.2.2.2⟩ : S62)) (wrap64 (x4 + 1))) else (none))) else (none)) else (some x3)
def laws_toCarpetS.f (k : Nat) (l0 : List (S115)) : Option ((List (S62))) := if 0 ≤ (l0.length : Int) then (if ((l0.length : Int) : Int).toNat ≤ 7036874417766 then (laws_toCarpetS.l0 k l0 (List.replicate ((l0.length : Int) : Int).toNat z62) 0) else (none)) else (none)
set_option maxHeartbeats 8000000 in
set_option maxRecDepth 100000 in
theorem laws_toCarpetS.calls (k : Nat) (A0 : Option Addr) (c0 : Nat) (l0 : List (S115)) (r : List (S62)) (w : World) (hr0 : Kd.C k115 w A0 l0.length l0) (hc0 : l0.length ≤ c0) (h : laws_toCarpetS.f k l0 = some r) :
    Calls Tryd.prog 72 #[.slice A0 l0.length c0] w fun e w' => ∃ v0_ : Value, e = .returned (v0_) ∧ Kd.R k62 62 w' w.heap.size (fun _ => True) v0_ r ∧ Below w.heap.size w w' := by
  have hu115 := Tryd.underlying115
  have hu62 := Tryd.underlying62
  have HR0 := Aside0.mk hr0
  have HC0 := Aside0.mk hc0
  clear hr0 hc0
  have HB := Aside0.mk (Below.refl w.heap.size w)
  unfold laws_toCarpetS.f at h
  have H := h
  clear h
  by_cases c2 : 0 ≤ (l0.length : Int)
  rotate_left
  · rw [if_neg c2] at H
    exact absurd H (by simp)
  rw [if_pos c2] at H
  have c2b0 := eq_true c2
  have c2b1 := decide_eq_true c2
  clear c2
  by_cases c3 : ((l0.length : Int) : Int).toNat ≤ 7036874417766
  rotate_left
  · rw [if_neg c3] at H
    exact absurd H (by simp)
  rw [if_pos c3] at H
  have c3b0 := eq_true c3
  have c3b1 := decide_eq_true c3
  clear c3
  obtain ⟨y188, hy188⟩ : ∃ y_ : List (S62), y_ = (List.replicate ((l0.length : Int) : Int).toNat z62) := ⟨_, rfl⟩
  replace H : (laws_toCarpetS.l0 k l0 y188 0) = some r := by first | (rw [hy188]; with_reducible exact H) | (have H2_ := (Option.bind_some _ _).symm.trans H; rw [hy188]; with_reducible exact H2_) | (have H2_ := (Option.bind_some _ _).symm.trans H; with_reducible exact H2_) | with_reducible exact H | (rw [hy188]; exact H) | exact H
  have Ny188 := Aside0.mk hy188
  clear hy188
  have H' := Aside0.mk H
  clear H
  go_enter Tryd.func72, Tryd.ntmps72
  go_wp2_with (first | ((with_reducible refine gate_dst (N := 7) rfl ?_); refine Kd.R_make k62 _ 62 rfl (N := 7) rfl 24 _ _ rfl (l0.length : Int) rfl rfl Tryd.underlying24 (.agg #[(.int .i64 0), (.int .i64 0), (.int .i64 0), (.int .i64 0), (.int .i64 0)]) 40 info62 rfl (by decide) (by omega) z62 (ok := fun _ => True) (okp := fun _ => True) (k62_mkM _ _ _ z62 ) (fun _ hk => hk) trivial (of_decide_eq_true zz5) (Nat.le_trans (Nat.mul_le_mul_right _ (of_decide_eq_true zz5 : (l0.length : Int).toNat ≤ 7036874417766)) (by omega)) (Below.refl _ _) (Nat.le_refl _) ?_; intro v189 w4 ho5 hb hg_ hnew_; clear hg_ hnew_; (first | rw [← Ny188.out] at ho5 | (simp only [Int.reduceToNat] at ho5; rw [← Ny188.out] at ho5)); refine qs2 (Kd.R_lower ho5 (below_size zz20)) (below_step zz20 hb) ?_; clear HB; intro HO190 HB; clear hb ho5))
  go_loopg [4] k (fun kq v4 w' => ∃ (x3_1 : List (S62)) (x4_1 : Int), v4 = .int .i64 x4_1 ∧ Aside0 (laws_toCarpetS.l0 kq l0 x3_1 x4_1 = some r) ∧ Aside0 (kq ≤ k) ∧ Aside0 (Kd.R k62 62 w' w.heap.size (fun _ => True) v189 x3_1) ∧ Aside0 (Below w.heap.size w w'))
  case atStart => exact ⟨(y188), (0), zz4, H', ⟨Nat.le_refl _⟩, ⟨by (with_reducible repeat (first | apply Kd.R_alloc | apply Kd.R_drewN | apply Kd.R_drew)); exact HO190.out⟩, ⟨zz20⟩⟩
  case round =>
    clear H'
    try clear c2
    try clear c2b0
    try clear c2b1
    try clear p2
    try clear c3
    try clear c3b0
    try clear c3b1
    obtain ⟨x3_1, x4_1, rfl, HA, HK1, HO_3, HB⟩ := hrel
    cases gk with
    | zero => exact absurd HA.out (by simp [laws_toCarpetS.l0])
    | succ k1 =>
      have H := HA.out
      clear HA
      simp only [laws_toCarpetS.l0] at H
      by_cases c6 : x4_1 < (l0.length : Int)
      rotate_left
      · rw [if_neg c6] at H
        have c6b0 := decide_eq_false c6
        clear c6
        obtain rfl := Option.some.inj H
        go_wp2
        go_ret
        exact ⟨_, zz9, by (with_reducible repeat (first | apply Kd.R_alloc | apply Kd.R_drewN | apply Kd.R_drew)); exact HO_3.out, zz20⟩
      rw [if_pos c6] at H
      have c6b0 := decide_eq_true c6
      clear c6
      by_cases c7 : 0 ≤ x4_1
      rotate_left
      · rw [if_neg c7] at H
        exact absurd H (by simp)
      rw [if_pos c7] at H
      have c7b0 := decide_eq_true c7
      clear c7
      replace H := Option.bind_eq_some_iff.mp H
      obtain ⟨⟨t192, t193, t194, t195, t196⟩, A80, H⟩ := H
      (try dsimp only at H)
      have A8 := Aside0.mk A80
      clear A80
      by_cases c9 : x4_1 < (x3_1.length : Int)
      rotate_left
      · rw [if_neg c9] at H
        exact absurd H (by simp)
      rw [if_pos c9] at H
      have c9b0 := decide_eq_true c9
      clear c9
      obtain ⟨y197, hy197⟩ : ∃ y_ : List (S62), y_ = (x3_1.set (x4_1 : Int).toNat (⟨t192, t193, t194, t195, t196⟩ : S62)) := ⟨_, rfl⟩
      replace H : (laws_toCarpetS.l0 k1 l0 y197 (wrap64 (x4_1 + 1))) = some r := by first | (rw [hy197]; with_reducible exact H) | (have H2_ := (Option.bind_some _ _).symm.trans H; rw [hy197]; with_reducible exact H2_) | (have H2_ := (Option.bind_some _ _).symm.trans H; with_reducible exact H2_) | with_reducible exact H | (rw [hy197]; exact H) | exact H
      have Ny197 := Aside0.mk hy197
      clear hy197
      have H' := Aside0.mk H
      clear H
      have p191 : 0 ≤ (x4_1 : Int) := of_decide_eq_true zz5
      have q191 : x4_1 < (l0.length : Int) := of_decide_eq_true zz5
      obtain ⟨ad191, e191, hx191_0, hx191_1, hx191_2, hx191_3, hx191_4⟩ := at_T115 HR0.out x4_1 p191 q191
      cases e191
      replace hx191_0 := (HB.out.cell (World.block_lt_of_cell? w _ hx191_0)).trans hx191_0
      replace hx191_1 := (HB.out.cell (World.block_lt_of_cell? w _ hx191_1)).trans hx191_1
      replace hx191_2 := (HB.out.cell (World.block_lt_of_cell? w _ hx191_2)).trans hx191_2
      replace hx191_3 := (HB.out.cell (World.block_lt_of_cell? w _ hx191_3)).trans hx191_3
      replace hx191_4 := (HB.out.cell (World.block_lt_of_cell? w _ hx191_4)).trans hx191_4
      replace p191 := eq_true p191
      replace q191 := eq_true q191
      go_wp2_with (first | ((with_reducible refine gate_callee (f := 83) rfl ?_); refine qcall 20 Tryd.func83 rfl #[.agg #[.int .i64 ((rd_T115 l0 x4_1).f0), .int .i64 ((rd_T115 l0 x4_1).f1), .int .i64 ((rd_T115 l0 x4_1).f2), .int .i64 ((rd_T115 l0 x4_1).f3), .int .i64 ((rd_T115 l0 x4_1).f4)]] ?_; (with_reducible refine (laws_toCarpet.calls ((rd_T115 l0 x4_1).f0) ((rd_T115 l0 x4_1).f1) ((rd_T115 l0 x4_1).f2) ((rd_T115 l0 x4_1).f3) ((rd_T115 l0 x4_1).f4) t192 t193 t194 t195 t196 _ A8.out).mono ?_); rintro e w11 ⟨rfl, hb⟩; refine ⟨_, rfl, ?_⟩; refine qs2 (Kd.R_below (qr HO_3.out) hb) (below_step zz20 hb) ?_; clear HO_3 HB; intro HO_3 HB; (try clear hb); (try clear hb2); (try clear hk); (try clear hi); have p10 : 0 ≤ (x4_1 : Int) := of_decide_eq_true zz5; have q10 : (x4_1 : Int) < ((x3_1.length : Int) : Int) := of_decide_eq_true zz5; obtain ⟨go10, co10, eo10, gb10, gl10, cl10, HG10⟩ := Kd.R_form HO_3.out (by omega); (first | cases eo10 | (injection eo10 with ea_ en_ ec_; (first | subst ea_ | (injection ea_ with ea_; subst ea_)); subst ec_; clear en_)); have GB10 := Aside0.mk gb10; have GG10 := Aside0.mk HG10; clear gb10 gl10 HG10; obtain ⟨ce10, hcl10, hM10, hcc10, hfr10⟩ := Kd.R_elem HO_3.out z62 (x4_1 : Int) p10 q10; obtain rfl := k62_openM hM10; have hx10_0 : w11.cell? ⟨go10, (x4_1 : Int).toNat * 5, none⟩ = some (.int .i64 ((rd_T62 x3_1 x4_1).f0)) := hcc10 0 _ rfl; have hx10_1 : w11.cell? ⟨go10, (x4_1 : Int).toNat * 5 + 1, none⟩ = some (.int .i64 ((rd_T62 x3_1 x4_1).f1)) := hcc10 1 _ rfl; have hx10_2 : w11.cell? ⟨go10, (x4_1 : Int).toNat * 5 + 2, none⟩ = some (.int .i64 ((rd_T62 x3_1 x4_1).f2)) := hcc10 2 _ rfl; have hx10_3 : w11.cell? ⟨go10, (x4_1 : Int).toNat * 5 + 3, none⟩ = some (.int .i64 ((rd_T62 x3_1 x4_1).f3)) := hcc10 3 _ rfl; have hx10_4 : w11.cell? ⟨go10, (x4_1 : Int).toNat * 5 + 4, none⟩ = some (.int .i64 ((rd_T62 x3_1 x4_1).f4)) := hcc10 4 _ rfl; have hf10_0 : w11.frozen? ⟨go10, (x4_1 : Int).toNat * 5, none⟩ = false := hfr10 0; have hf10_1 : w11.frozen? ⟨go10, (x4_1 : Int).toNat * 5 + 1, none⟩ = false := hfr10 1; have hf10_2 : w11.frozen? ⟨go10, (x4_1 : Int).toNat * 5 + 2, none⟩ = false := hfr10 2; have hf10_3 : w11.frozen? ⟨go10, (x4_1 : Int).toNat * 5 + 3, none⟩ = false := hfr10 3; have hf10_4 : w11.frozen? ⟨go10, (x4_1 : Int).toNat * 5 + 4, none⟩ = false := hfr10 4; clear hcl10 hcc10 hfr10 hM10; replace p10 := eq_true p10; replace q10 := eq_true q10; have HX12 := Aside0.mk (show Kd.R k62 62 w11 w.heap.size (fun _ => True) (.slice (some ⟨go10, 0, none⟩) x3_1.length co10) x3_1 from (qr HO_3.out)); obtain ⟨ce12, hcl12, hM12, hcc12, hfr12⟩ := Kd.R_elem HX12.out z62 (x4_1 : Int) (of_decide_eq_true zz5) (by have h_ : (x4_1 : Int) < ((x3_1.length : Int) : Int) := of_decide_eq_true zz5; first | exact h_ | (have e_ := (Kd.R_reads' HO_3.out).1; omega) | simpa using h_); obtain rfl := k62_openM hM12; have HP12 := Kd.R_seg HX12.out (x4_1 : Int) (of_decide_eq_true zz5) (by have h_ : (x4_1 : Int) < ((x3_1.length : Int) : Int) := of_decide_eq_true zz5; first | exact h_ | (have e_ := (Kd.R_reads' HO_3.out).1; omega) | simpa using h_) (seg := [.int .i64 t192, .int .i64 t193, .int .i64 t194, .int .i64 t195, .int .i64 t196]) (j := 0) hcl12 hcc12 (show 5 ≤ 5 from by decide) (x' := (⟨t192, t193, t194, t195, t196⟩ : S62)) (k62_mkM _ _ _ (⟨t192, t193, t194, t195, t196⟩ : S62) ) (fun _ hk => hk); have hx12_0 := hcc12 0 _ rfl; (try simp only [show (k62).sz = 5 from rfl, Nat.mul_one, Nat.add_zero] at hx12_0); have hf12_0 := hfr12 0; (try simp only [show (k62).sz = 5 from rfl, Nat.mul_one, Nat.add_zero] at hf12_0); have hx12_1 := hcc12 1 _ rfl; (try simp only [show (k62).sz = 5 from rfl, Nat.mul_one, Nat.add_zero] at hx12_1); have hf12_1 := hfr12 1; (try simp only [show (k62).sz = 5 from rfl, Nat.mul_one, Nat.add_zero] at hf12_1); have hx12_2 := hcc12 2 _ rfl; (try simp only [show (k62).sz = 5 from rfl, Nat.mul_one, Nat.add_zero] at hx12_2); have hf12_2 := hfr12 2; (try simp only [show (k62).sz = 5 from rfl, Nat.mul_one, Nat.add_zero] at hf12_2); have hx12_3 := hcc12 3 _ rfl; (try simp only [show (k62).sz = 5 from rfl, Nat.mul_one, Nat.add_zero] at hx12_3); have hf12_3 := hfr12 3; (try simp only [show (k62).sz = 5 from rfl, Nat.mul_one, Nat.add_zero] at hf12_3); have hx12_4 := hcc12 4 _ rfl; (try simp only [show (k62).sz = 5 from rfl, Nat.mul_one, Nat.add_zero] at hx12_4); have hf12_4 := hfr12 4; (try simp only [show (k62).sz = 5 from rfl, Nat.mul_one, Nat.add_zero] at hf12_4); clear hcl12 hcc12 hfr12 hM12) | ((with_reducible refine gate_store (t := 62) (p := 21) rfl ?_); refine store_event (t := 62) (p := 21) (v := ?vo_w13) (w1 := (((((w11.setCell ⟨go10, (x4_1 : Int).toNat * 5, none⟩ (.int .i64 t192)).setCell ⟨go10, (x4_1 : Int).toNat * 5 + 1, none⟩ (.int .i64 t193)).setCell ⟨go10, (x4_1 : Int).toNat * 5 + 2, none⟩ (.int .i64 t194)).setCell ⟨go10, (x4_1 : Int).toNat * 5 + 3, none⟩ (.int .i64 t195)).setCell ⟨go10, (x4_1 : Int).toNat * 5 + 4, none⟩ (.int .i64 t196))) ?hg ?ho ?hn ?hr ?_; (case ho => rfl); (case hg => rfl); (case hn => rfl); (case hr => exact zz3); intro w13 hw; have hg : w11.grownBy w13 (some go10) := (by rw [hw]; exact HP12.2); have hp_ : Kd.R k62 62 w13 w.heap.size (fun _ => True) (.slice (some ⟨go10, 0, none⟩) x3_1.length co10) y197 := (by rw [hw, Ny197.out]; exact HP12.1); clear HP12; refine qs2 (hp_) ((by rw [hw]; exact below_set (below_set (below_set (below_set (below_set (HB.out) GB10.out) GB10.out) GB10.out) GB10.out) GB10.out : Below w.heap.size w w13)) ?_; clear HO_3 HB; intro HO_3 HB; clear hg hw hp_))
      go_roundg k1
      case measure => have := HK1.out; omega
      case rel => exact ⟨(y197), (wrap64 (x4_1 + 1)), zz4, H', ⟨zz1⟩, ⟨by (with_reducible repeat (first | apply Kd.R_alloc | apply Kd.R_drewN | apply Kd.R_drew)); exact HO_3.out⟩, ⟨zz20⟩⟩


/-! ### laws_toShop: function 47 -/
def laws_toShop.f (k : Nat) (a0_0 : Int) (a0_1 : Int) (l0_2 : List (S115)) (a0_3 : Int) : Option (Int × Int × (List (S62)) × Int) := (laws_toCarpetS.f k l0_2).bind fun t201 => (some (a0_0, a0_1, t201, a0_3))
set_option maxHeartbeats 8000000 in
set_option maxRecDepth 100000 in
theorem laws_toShop.calls (k : Nat) (a0_0 : Int) (a0_1 : Int) (A0_2 : Option Addr) (c0_2 : Nat) (l0_2 : List (S115)) (a0_3 : Int) (r1 : Int) (r2 : Int) (r3 : List (S62)) (r4 : Int) (w : World) (hr0_2 : Kd.C k115 w A0_2 l0_2.length l0_2) (hc0_2 : l0_2.length ≤ c0_2) (h : laws_toShop.f k a0_0 a0_1 l0_2 a0_3 = some (r1, r2, r3, r4)) :
    Calls Tryd.prog 47 #[.agg #[.int .i64 a0_0, .int .i64 a0_1, .slice A0_2 l0_2.length c0_2, .int .i64 a0_3]] w fun e w' => ∃ v2_ : Value, e = .returned (.agg #[.int .i64 r1, .int .i64 r2, v2_, .int .i64 r4]) ∧ Kd.R k62 62 w' w.heap.size (fun _ => True) v2_ r3 ∧ Below w.heap.size w w' := by
  have hu45 := Tryd.underlying45
  have hu26 := Tryd.underlying26
  have HR0_2 := Aside0.mk hr0_2
  have HC0_2 := Aside0.mk hc0_2
  clear hr0_2 hc0_2
  have HB := Aside0.mk (Below.refl w.heap.size w)
  have H : ((laws_toCarpetS.f k l0_2).bind fun t201 => (some (a0_0, a0_1, t201, a0_3))) = some (r1, r2, r3, r4) := h
  clear h
  replace H := Option.bind_eq_some_iff.mp H
  obtain ⟨t201, A20, H⟩ := H
  (try dsimp only at H)
  have A2 := Aside0.mk A20
  clear A20
  simp only [Option.some.injEq, Prod.mk.injEq] at H
  obtain ⟨rfl, rfl, rfl, rfl⟩ := H
  go_enter Tryd.func47, Tryd.ntmps47
  go_wp2_with (first | ((with_reducible refine gate_dst (N := 1) rfl ?_); refine qbox (N := 1) (cs := #[.int .i64 a0_0, .int .i64 a0_1, .slice A0_2 l0_2.length c0_2, .int .i64 a0_3]) (t := 45) ?_; intro gb198 hg w3 hbox hb; refine qs4 (below_step zz20 hb) (hbox) ((zz87 : w.heap.size ≤ gb198)) ((zz87 : w.heap.size ≤ gb198)) ?_; clear HB; intro HB BK198 GW198 GE198; clear hb hbox hg) | ((with_reducible refine gate_dst (N := 2) rfl ?_); refine qbox (N := 2) (cs := #[.int .i64 0, .int .i64 0, .slice none 0 0, .int .i64 0]) (t := 26) ?_; intro gb199 hg w4 hbox hb; refine qs7 (blk_below (qb BK198.out) hb) (below_step zz49 hb) (hbox) ((by rw [hg]; exact (below_size zz49) : w.heap.size ≤ gb199)) ((by rw [hg]; exact (below_size zz49) : w.heap.size ≤ gb199)) ((by rw [hg]; exact Nat.ne_of_lt (blk_lt (qb BK198.out)) : gb198 ≠ gb199)) ((by rw [hg]; exact Nat.ne_of_gt (blk_lt (qb BK198.out)) : gb199 ≠ gb198)) ?_; clear BK198 HB; intro BK198 HB BK199 GW199 GE199 NB198_199 NB199_198; clear hb hbox hg) | ((with_reducible refine gate_dst (N := 3) rfl ?_); refine qbox (N := 3) (cs := #[.int .i64 0, .int .i64 0, .slice none 0 0, .int .i64 0]) (t := 26) ?_; intro gb200 hg w5 hbox hb; refine qs10 (blk_below (qb BK198.out) hb) (blk_below (qb BK199.out) hb) (below_step zz67 hb) (hbox) ((by rw [hg]; exact (below_size zz67) : w.heap.size ≤ gb200)) ((by rw [hg]; exact (below_size zz67) : w.heap.size ≤ gb200)) ((by rw [hg]; exact Nat.ne_of_lt (blk_lt (qb BK198.out)) : gb198 ≠ gb200)) ((by rw [hg]; exact Nat.ne_of_gt (blk_lt (qb BK198.out)) : gb200 ≠ gb198)) ((by rw [hg]; exact Nat.ne_of_lt (blk_lt (qb BK199.out)) : gb199 ≠ gb200)) ((by rw [hg]; exact Nat.ne_of_gt (blk_lt (qb BK199.out)) : gb200 ≠ gb199)) ?_; clear BK198 BK199 HB; intro BK198 BK199 HB BK200 GW200 GE200 NB198_200 NB200_198 NB199_200 NB200_199; clear hb hbox hg; have hnb6 := NB198_199.out; have hnc6 := NB199_198.out; have hnb7 := NB198_200.out; have hnc7 := NB200_198.out; obtain ⟨hcz8_0, hcz8_1, hcz8_2, hcz8_3, hfz8_0, hfz8_1, hfz8_2, hfz8_3⟩ := qc4 BK198.out; have hnb9 := NB200_199.out; have hnc9 := NB199_200.out; obtain ⟨hcz10_0, hcz10_1, hcz10_2, hcz10_3, hfz10_0, hfz10_1, hfz10_2, hfz10_3⟩ := qc4 BK200.out) | ((with_reducible refine gate_callee (f := 72) rfl ?_); refine qcall 12 Tryd.func72 rfl #[.slice A0_2 l0_2.length c0_2] ?_; (with_reducible refine (laws_toCarpetS.calls k _ _ l0_2 t201 _ ?side1 ?side2 A2.out).mono ?_); (case side1 => exact Kd.C_below HR0_2.out zz70); (case side2 => exact zz0); rintro e w11 ⟨v202, rfl, ho0, hb⟩; refine ⟨_, rfl, ?_⟩; refine qs5 (Kd.R_lower ho0 (below_size zz70)) (blk_below (g := gb198) (o := .cells #[.int .i64 a0_0, .int .i64 a0_1, .slice A0_2 l0_2.length c0_2, .int .i64 a0_3] 45 (0, 0)) (by (with_reducible repeat (first | refine blk_drewN ?_ _ | refine blk_drew ?_ | refine blk_alloc ?_ _)); refine blk_far ?_ NB198_200.out _; (with_reducible repeat (first | refine blk_drewN ?_ _ | refine blk_drew ?_ | refine blk_alloc ?_ _)); refine blk_far ?_ NB198_200.out _; (with_reducible repeat (first | refine blk_drewN ?_ _ | refine blk_drew ?_ | refine blk_alloc ?_ _)); exact BK198.out) hb) (blk_below (g := gb199) (o := .cells #[.int .i64 0, .int .i64 0, .slice none 0 0, .int .i64 0] 26 (0, 0)) (by (with_reducible repeat (first | refine blk_drewN ?_ _ | refine blk_drew ?_ | refine blk_alloc ?_ _)); refine blk_far ?_ NB199_200.out _; (with_reducible repeat (first | refine blk_drewN ?_ _ | refine blk_drew ?_ | refine blk_alloc ?_ _)); refine blk_far ?_ NB199_200.out _; (with_reducible repeat (first | refine blk_drewN ?_ _ | refine blk_drew ?_ | refine blk_alloc ?_ _)); exact BK199.out) hb) (blk_below (g := gb200) (o := .cells #[.int .i64 a0_0, .int .i64 a0_1, .slice none 0 0, .int .i64 0] 26 (0, 0)) (by (with_reducible repeat (first | refine blk_drewN ?_ _ | refine blk_drew ?_ | refine blk_alloc ?_ _)); refine blk_put (cs := #[.int .i64 a0_0, .int .i64 0, .slice none 0 0, .int .i64 0]) ?_ 1 _ rfl; (with_reducible repeat (first | refine blk_drewN ?_ _ | refine blk_drew ?_ | refine blk_alloc ?_ _)); refine blk_put (cs := #[.int .i64 0, .int .i64 0, .slice none 0 0, .int .i64 0]) ?_ 0 _ rfl; (with_reducible repeat (first | refine blk_drewN ?_ _ | refine blk_drew ?_ | refine blk_alloc ?_ _)); exact BK200.out) hb) (below_step zz70 hb) ?_; clear BK198 BK199 BK200 HB; intro HO203 BK198 BK199 BK200 HB; (try clear hb); (try clear hb2); (try clear hk); (try clear hi); (try clear ho0); obtain ⟨Ao12, co12, eo12⟩ := Kd.R_slice HO203.out; subst eo12; obtain ⟨hcz13_0, hcz13_1, hcz13_2, hcz13_3, hfz13_0, hfz13_1, hfz13_2, hfz13_3⟩ := qc4 BK200.out; obtain ⟨hcz14_0, hcz14_1, hcz14_2, hcz14_3, hfz14_0, hfz14_1, hfz14_2, hfz14_3⟩ := qc4 BK198.out; obtain ⟨hcz15_0, hcz15_1, hcz15_2, hcz15_3, hfz15_0, hfz15_1, hfz15_2, hfz15_3⟩ := qc4 BK199.out))
  refine bodyPost_ret (results_cell_row rfl _ _ gb199 26 #[.int .i64 a0_0, .int .i64 a0_1, .slice Ao12 t201.length co12, .int .i64 a0_3] (0, 0) _ rfl (by (with_reducible repeat (first | refine blk_drewN ?_ _ | refine blk_drew ?_ | refine blk_alloc ?_ _)); refine blk_put (cs := #[.int .i64 a0_0, .int .i64 a0_1, .slice Ao12 t201.length co12, .int .i64 0]) ?_ 3 _ rfl; (with_reducible repeat (first | refine blk_drewN ?_ _ | refine blk_drew ?_ | refine blk_alloc ?_ _)); refine blk_put (cs := #[.int .i64 a0_0, .int .i64 a0_1, .slice none 0 0, .int .i64 0]) ?_ 2 _ rfl; (with_reducible repeat (first | refine blk_drewN ?_ _ | refine blk_drew ?_ | refine blk_alloc ?_ _)); refine blk_put (cs := #[.int .i64 a0_0, .int .i64 0, .slice none 0 0, .int .i64 0]) ?_ 1 _ rfl; (with_reducible repeat (first | refine blk_drewN ?_ _ | refine blk_drew ?_ | refine blk_alloc ?_ _)); refine blk_put (cs := #[.int .i64 0, .int .i64 0, .slice none 0 0, .int .i64 0]) ?_ 0 _ rfl; (with_reducible repeat (first | refine blk_drewN ?_ _ | refine blk_drew ?_ | refine blk_alloc ?_ _)); refine blk_far ?_ NB199_200.out _; (with_reducible repeat (first | refine blk_drewN ?_ _ | refine blk_drew ?_ | refine blk_alloc ?_ _)); refine blk_far ?_ NB199_200.out _; (with_reducible repeat (first | refine blk_drewN ?_ _ | refine blk_drew ?_ | refine blk_alloc ?_ _)); exact BK199.out) Tryd.underlying26 rfl (by kernel_rfl)) rfl ?_
  exact ⟨_, zz9, by (with_reducible repeat (first | apply Kd.R_alloc | apply Kd.R_drewN | apply Kd.R_drew)); exact Kd.R_mono (Kd.R_far (p := ⟨gb199, 3, none⟩) (Kd.R_far (p := ⟨gb199, 2, none⟩) (Kd.R_far (p := ⟨gb199, 1, none⟩) (Kd.R_far (p := ⟨gb199, 0, none⟩) (Kd.R_far (p := ⟨gb200, 3, none⟩) (Kd.R_far (p := ⟨gb200, 2, none⟩) (Kd.R_types (Kd.R_types HO203.out BK200.out (by decide)) BK199.out (by decide)) (fun _ hk => hk.1.2) (.slice Ao12 t201.length co12)) (fun _ hk => hk.1.2) (.int .i64 a0_3)) (fun _ hk => hk.2) (.int .i64 a0_0)) (fun _ hk => hk.2) (.int .i64 a0_1)) (fun _ hk => hk.2) (.slice Ao12 t201.length co12)) (fun _ hk => hk.2) (.int .i64 a0_3)) (fun _ hk => trivial), zz70⟩


/-! ### laws_toLog: function 48 -/
def laws_toLog.f (a0_0 : ByteArray) (a0_1 : ByteArray) (a0_2 : Int) : Option (ByteArray × ByteArray × Int) := some (a0_0, a0_1, a0_2)
set_option maxHeartbeats 8000000 in
set_option maxRecDepth 100000 in
theorem laws_toLog.calls (a0_0 : ByteArray) (a0_1 : ByteArray) (a0_2 : Int) (r1 : ByteArray) (r2 : ByteArray) (r3 : Int) (w : World) (h : laws_toLog.f a0_0 a0_1 a0_2 = some (r1, r2, r3)) :
    Calls Tryd.prog 48 #[.agg #[.string a0_0, .string a0_1, .int .i64 a0_2]] w fun e w' => e = .returned (.agg #[.string r1, .string r2, .int .i64 r3]) ∧ Below w.heap.size w w' := by
  have hu47 := Tryd.underlying47
  have hu52 := Tryd.underlying52
  have HB := Aside0.mk (Below.refl w.heap.size w)
  have H : (some (a0_0, a0_1, a0_2)) = some (r1, r2, r3) := h
  clear h
  simp only [Option.some.injEq, Prod.mk.injEq] at H
  obtain ⟨rfl, rfl, rfl⟩ := H
  go_enter Tryd.func48, Tryd.ntmps48
  go_wp2_with (first | ((with_reducible refine gate_dst (N := 1) rfl ?_); refine qbox (N := 1) (cs := #[.string a0_0, .string a0_1, .int .i64 a0_2]) (t := 47) ?_; intro gb204 hg w2 hbox hb; refine qs4 (below_step zz20 hb) (hbox) ((zz87 : w.heap.size ≤ gb204)) ((zz87 : w.heap.size ≤ gb204)) ?_; clear HB; intro HB BK204 GW204 GE204; clear hb hbox hg) | ((with_reducible refine gate_dst (N := 2) rfl ?_); refine qbox (N := 2) (cs := #[.string (⟨#[]⟩ : ByteArray), .string (⟨#[]⟩ : ByteArray), .int .i64 0]) (t := 52) ?_; intro gb205 hg w3 hbox hb; refine qs7 (blk_below (qb BK204.out) hb) (below_step zz50 hb) (hbox) ((by rw [hg]; exact (below_size zz50) : w.heap.size ≤ gb205)) ((by rw [hg]; exact (below_size zz50) : w.heap.size ≤ gb205)) ((by rw [hg]; exact Nat.ne_of_lt (blk_lt (qb BK204.out)) : gb204 ≠ gb205)) ((by rw [hg]; exact Nat.ne_of_gt (blk_lt (qb BK204.out)) : gb205 ≠ gb204)) ?_; clear BK204 HB; intro BK204 HB BK205 GW205 GE205 NB204_205 NB205_204; clear hb hbox hg) | ((with_reducible refine gate_dst (N := 3) rfl ?_); refine qbox (N := 3) (cs := #[.string (⟨#[]⟩ : ByteArray), .string (⟨#[]⟩ : ByteArray), .int .i64 0]) (t := 52) ?_; intro gb206 hg w4 hbox hb; refine qs10 (blk_below (qb BK204.out) hb) (blk_below (qb BK205.out) hb) (below_step zz68 hb) (hbox) ((by rw [hg]; exact (below_size zz68) : w.heap.size ≤ gb206)) ((by rw [hg]; exact (below_size zz68) : w.heap.size ≤ gb206)) ((by rw [hg]; exact Nat.ne_of_lt (blk_lt (qb BK204.out)) : gb204 ≠ gb206)) ((by rw [hg]; exact Nat.ne_of_gt (blk_lt (qb BK204.out)) : gb206 ≠ gb204)) ((by rw [hg]; exact Nat.ne_of_lt (blk_lt (qb BK205.out)) : gb205 ≠ gb206)) ((by rw [hg]; exact Nat.ne_of_gt (blk_lt (qb BK205.out)) : gb206 ≠ gb205)) ?_; clear BK204 BK205 HB; intro BK204 BK205 HB BK206 GW206 GE206 NB204_206 NB206_204 NB205_206 NB206_205; clear hb hbox hg; have hnb5 := NB204_205.out; have hnc5 := NB205_204.out; have hnb6 := NB204_206.out; have hnc6 := NB206_204.out; obtain ⟨hcz7_0, hcz7_1, hcz7_2, hfz7_0, hfz7_1, hfz7_2⟩ := qc3 BK204.out; have hnb8 := NB206_205.out; have hnc8 := NB205_206.out; obtain ⟨hcz9_0, hcz9_1, hcz9_2, hfz9_0, hfz9_1, hfz9_2⟩ := qc3 BK206.out; obtain ⟨hcz10_0, hcz10_1, hcz10_2, hfz10_0, hfz10_1, hfz10_2⟩ := qc3 BK205.out))
  refine bodyPost_ret (results_cell_row rfl _ _ gb205 52 #[.string a0_0, .string a0_1, .int .i64 a0_2] (0, 0) _ rfl (by (with_reducible repeat (first | refine blk_drewN ?_ _ | refine blk_drew ?_ | refine blk_alloc ?_ _)); refine blk_put (cs := #[.string a0_0, .string a0_1, .int .i64 0]) ?_ 2 _ rfl; (with_reducible repeat (first | refine blk_drewN ?_ _ | refine blk_drew ?_ | refine blk_alloc ?_ _)); refine blk_put (cs := #[.string a0_0, .string (⟨#[]⟩ : ByteArray), .int .i64 0]) ?_ 1 _ rfl; (with_reducible repeat (first | refine blk_drewN ?_ _ | refine blk_drew ?_ | refine blk_alloc ?_ _)); refine blk_put (cs := #[.string (⟨#[]⟩ : ByteArray), .string (⟨#[]⟩ : ByteArray), .int .i64 0]) ?_ 0 _ rfl; (with_reducible repeat (first | refine blk_drewN ?_ _ | refine blk_drew ?_ | refine blk_alloc ?_ _)); refine blk_far ?_ NB205_206.out _; (with_reducible repeat (first | refine blk_drewN ?_ _ | refine blk_drew ?_ | refine blk_alloc ?_ _)); refine blk_far ?_ NB205_206.out _; (with_reducible repeat (first | refine blk_drewN ?_ _ | refine blk_drew ?_ | refine blk_alloc ?_ _)); refine blk_far ?_ NB205_206.out _; (with_reducible repeat (first | refine blk_drewN ?_ _ | refine blk_drew ?_ | refine blk_alloc ?_ _)); exact BK205.out) Tryd.underlying52 rfl (by kernel_rfl)) rfl ?_
  exact ⟨zz9, by repeat (first | (with_reducible first | exact HB.out | apply below_alloc | apply pw_below_drewN | apply below_drew1 | refine below_set ?_ GE204.out | refine below_set ?_ GE205.out | refine below_set ?_ GE206.out) | exact HB.out)⟩


/-! ### laws_toConsole: function 26 -/
def laws_toConsole.f (k : Nat) (a0_0 : Int) (a0_1 : Int) (l0_2 : List (S115)) (a0_3 : Int) (a0_4 : ByteArray) (a0_5 : ByteArray) (a0_6 : Int) : Option (Int × Int × (List (S62)) × Int × ByteArray × ByteArray × Int) := (laws_toShop.f k a0_0 a0_1 l0_2 a0_3).bind fun bt210 => ((laws_toLog.f a0_4 a0_5 a0_6).bind fun bt216 => (some (bt210.1, bt210.2.1, bt210.2.2.1, bt210.2.2.2, bt216.1, bt216.2.1, bt216.2.2)))
set_option maxHeartbeats 8000000 in
set_option maxRecDepth 100000 in
theorem laws_toConsole.calls (k : Nat) (a0_0 : Int) (a0_1 : Int) (A0_2 : Option Addr) (c0_2 : Nat) (l0_2 : List (S115)) (a0_3 : Int) (a0_4 : ByteArray) (a0_5 : ByteArray) (a0_6 : Int) (r1 : Int) (r2 : Int) (r3 : List (S62)) (r4 : Int) (r5 : ByteArray) (r6 : ByteArray) (r7 : Int) (w : World) (hr0_2 : Kd.C k115 w A0_2 l0_2.length l0_2) (hc0_2 : l0_2.length ≤ c0_2) (h : laws_toConsole.f k a0_0 a0_1 l0_2 a0_3 a0_4 a0_5 a0_6 = some (r1, r2, r3, r4, r5, r6, r7)) :
    Calls Tryd.prog 26 #[.agg #[.int .i64 a0_0, .int .i64 a0_1, .slice A0_2 l0_2.length c0_2, .int .i64 a0_3, .string a0_4, .string a0_5, .int .i64 a0_6]] w fun e w' => ∃ v2_ : Value, e = .returned (.agg #[.int .i64 r1, .int .i64 r2, v2_, .int .i64 r4, .string r5, .string r6, .int .i64 r7]) ∧ Kd.R k62 62 w' w.heap.size (fun _ => True) v2_ r3 ∧ Below w.heap.size w w' := by
  have hu49 := Tryd.underlying49
  have hu54 := Tryd.underlying54
  have hu45 := Tryd.underlying45
  have hu26 := Tryd.underlying26
  have hu47 := Tryd.underlying47
  have hu52 := Tryd.underlying52
  have HR0_2 := Aside0.mk hr0_2
  have HC0_2 := Aside0.mk hc0_2
  clear hr0_2 hc0_2
  have HB := Aside0.mk (Below.refl w.heap.size w)
  unfold laws_toConsole.f at h
  have H := h
  clear h
  replace H := Option.bind_eq_some_iff.mp H
  obtain ⟨⟨t210, t211, t212, t215⟩, A20, H⟩ := H
  (try dsimp only at H)
  have A2 := Aside0.mk A20
  clear A20
  replace H := Option.bind_eq_some_iff.mp H
  obtain ⟨⟨t216, t217, t218⟩, A30, H⟩ := H
  (try dsimp only at H)
  have A3 := Aside0.mk A30
  clear A30
  simp only [Option.some.injEq, Prod.mk.injEq] at H
  obtain ⟨rfl, rfl, rfl, rfl, rfl, rfl, rfl⟩ := H
  go_enter Tryd.func26, Tryd.ntmps26
  go_wp2_with (first | ((with_reducible refine gate_dst (N := 1) rfl ?_); refine qbox (N := 1) (cs := #[.int .i64 a0_0, .int .i64 a0_1, .slice A0_2 l0_2.length c0_2, .int .i64 a0_3, .string a0_4, .string a0_5, .int .i64 a0_6]) (t := 49) ?_; intro gb207 hg w4 hbox hb; refine qs4 (below_step zz20 hb) (hbox) ((zz87 : w.heap.size ≤ gb207)) ((zz87 : w.heap.size ≤ gb207)) ?_; clear HB; intro HB BK207 GW207 GE207; clear hb hbox hg) | ((with_reducible refine gate_dst (N := 2) rfl ?_); refine qbox (N := 2) (cs := #[.int .i64 0, .int .i64 0, .slice none 0 0, .int .i64 0, .string (⟨#[]⟩ : ByteArray), .string (⟨#[]⟩ : ByteArray), .int .i64 0]) (t := 54) ?_; intro gb208 hg w5 hbox hb; refine qs7 (blk_below (qb BK207.out) hb) (below_step zz51 hb) (hbox) ((by rw [hg]; exact (below_size zz51) : w.heap.size ≤ gb208)) ((by rw [hg]; exact (below_size zz51) : w.heap.size ≤ gb208)) ((by rw [hg]; exact Nat.ne_of_lt (blk_lt (qb BK207.out)) : gb207 ≠ gb208)) ((by rw [hg]; exact Nat.ne_of_gt (blk_lt (qb BK207.out)) : gb208 ≠ gb207)) ?_; clear BK207 HB; intro BK207 HB BK208 GW208 GE208 NB207_208 NB208_207; clear hb hbox hg) | ((with_reducible refine gate_dst (N := 3) rfl ?_); refine qbox (N := 3) (cs := #[.int .i64 0, .int .i64 0, .slice none 0 0, .int .i64 0, .string (⟨#[]⟩ : ByteArray), .string (⟨#[]⟩ : ByteArray), .int .i64 0]) (t := 54) ?_; intro gb209 hg w6 hbox hb; refine qs10 (blk_below (qb BK207.out) hb) (blk_below (qb BK208.out) hb) (below_step zz69 hb) (hbox) ((by rw [hg]; exact (below_size zz69) : w.heap.size ≤ gb209)) ((by rw [hg]; exact (below_size zz69) : w.heap.size ≤ gb209)) ((by rw [hg]; exact Nat.ne_of_lt (blk_lt (qb BK207.out)) : gb207 ≠ gb209)) ((by rw [hg]; exact Nat.ne_of_gt (blk_lt (qb BK207.out)) : gb209 ≠ gb207)) ((by rw [hg]; exact Nat.ne_of_lt (blk_lt (qb BK208.out)) : gb208 ≠ gb209)) ((by rw [hg]; exact Nat.ne_of_gt (blk_lt (qb BK208.out)) : gb209 ≠ gb208)) ?_; clear BK207 BK208 HB; intro BK207 BK208 HB BK209 GW209 GE209 NB207_209 NB209_207 NB208_209 NB209_208; clear hb hbox hg; have hnb7 := NB207_208.out; have hnc7 := NB208_207.out; have hnb8 := NB207_209.out; have hnc8 := NB209_207.out; obtain ⟨hcz9_0, hcz9_1, hcz9_2, hcz9_3, hcz9_4, hcz9_5, hcz9_6, hfz9_0, hfz9_1, hfz9_2, hfz9_3, hfz9_4, hfz9_5, hfz9_6⟩ := qc7 BK207.out) | ((with_reducible refine gate_callee (f := 47) rfl ?_); refine qcall 6 Tryd.func47 rfl #[.agg #[.int .i64 a0_0, .int .i64 a0_1, .slice A0_2 l0_2.length c0_2, .int .i64 a0_3]] ?_; (with_reducible refine (laws_toShop.calls k a0_0 a0_1 _ _ l0_2 a0_3 t210 t211 t212 t215 _ ?side1 ?side2 A2.out).mono ?_); (case side1 => exact zz54); (case side2 => exact zz0); rintro e w10 ⟨v213, rfl, ho0, hb⟩; refine ⟨_, rfl, ?_⟩; refine qs5 (Kd.R_lower ho0 (below_size zz71)) (blk_below (qb BK207.out) hb) (blk_below (qb BK208.out) hb) (blk_below (qb BK209.out) hb) (below_step zz71 hb) ?_; clear BK207 BK208 BK209 HB; intro HO214 BK207 BK208 BK209 HB; (try clear hb); (try clear hb2); (try clear hk); (try clear hi); (try clear ho0); have hnb11 := NB209_208.out; have hnc11 := NB208_209.out; obtain ⟨hcz12_0, hcz12_1, hcz12_2, hcz12_3, hcz12_4, hcz12_5, hcz12_6, hfz12_0, hfz12_1, hfz12_2, hfz12_3, hfz12_4, hfz12_5, hfz12_6⟩ := qc7 BK209.out; obtain ⟨Ao13, co13, eo13⟩ := Kd.R_slice HO214.out; subst eo13; obtain ⟨hcz14_0, hcz14_1, hcz14_2, hcz14_3, hcz14_4, hcz14_5, hcz14_6, hfz14_0, hfz14_1, hfz14_2, hfz14_3, hfz14_4, hfz14_5, hfz14_6⟩ := qc7 BK207.out) | ((with_reducible refine gate_callee (f := 48) rfl ?_); refine qcall 10 Tryd.func48 rfl #[.agg #[.string a0_4, .string a0_5, .int .i64 a0_6]] ?_; (with_reducible refine (laws_toLog.calls a0_4 a0_5 a0_6 t216 t217 t218 _ A3.out).mono ?_); rintro e w15 ⟨rfl, hb⟩; refine ⟨_, rfl, ?_⟩; refine qs5 (Kd.R_below (by (with_reducible repeat (first | apply Kd.R_alloc | apply Kd.R_drewN | apply Kd.R_drew)); exact (Kd.R_mono (Kd.R_far (p := ⟨gb209, 3, none⟩) (Kd.R_far (p := ⟨gb209, 2, none⟩) (Kd.R_far (p := ⟨gb209, 1, none⟩) (Kd.R_far (p := ⟨gb209, 0, none⟩) (Kd.R_types HO214.out BK209.out (by decide)) (fun _ hk => hk.2) (.int .i64 t210)) (fun _ hk => hk.2) (.int .i64 t211)) (fun _ hk => hk.2) (.slice Ao13 t212.length co13)) (fun _ hk => hk.2) (.int .i64 t215)) (fun _ h_ => h_.1))) hb) (blk_below (g := gb207) (o := .cells #[.int .i64 a0_0, .int .i64 a0_1, .slice A0_2 l0_2.length c0_2, .int .i64 a0_3, .string a0_4, .string a0_5, .int .i64 a0_6] 49 (0, 0)) (by (with_reducible repeat (first | refine blk_drewN ?_ _ | refine blk_drew ?_ | refine blk_alloc ?_ _)); refine blk_far ?_ NB207_209.out _; (with_reducible repeat (first | refine blk_drewN ?_ _ | refine blk_drew ?_ | refine blk_alloc ?_ _)); refine blk_far ?_ NB207_209.out _; (with_reducible repeat (first | refine blk_drewN ?_ _ | refine blk_drew ?_ | refine blk_alloc ?_ _)); refine blk_far ?_ NB207_209.out _; (with_reducible repeat (first | refine blk_drewN ?_ _ | refine blk_drew ?_ | refine blk_alloc ?_ _)); refine blk_far ?_ NB207_209.out _; (with_reducible repeat (first | refine blk_drewN ?_ _ | refine blk_drew ?_ | refine blk_alloc ?_ _)); exact BK207.out) hb) (blk_below (g := gb208) (o := .cells #[.int .i64 0, .int .i64 0, .slice none 0 0, .int .i64 0, .string (⟨#[]⟩ : ByteArray), .string (⟨#[]⟩ : ByteArray), .int .i64 0] 54 (0, 0)) (by (with_reducible repeat (first | refine blk_drewN ?_ _ | refine blk_drew ?_ | refine blk_alloc ?_ _)); refine blk_far ?_ NB208_209.out _; (with_reducible repeat (first | refine blk_drewN ?_ _ | refine blk_drew ?_ | refine blk_alloc ?_ _)); refine blk_far ?_ NB208_209.out _; (with_reducible repeat (first | refine blk_drewN ?_ _ | refine blk_drew ?_ | refine blk_alloc ?_ _)); refine blk_far ?_ NB208_209.out _; (with_reducible repeat (first | refine blk_drewN ?_ _ | refine blk_drew ?_ | refine blk_alloc ?_ _)); refine blk_far ?_ NB208_209.out _; (with_reducible repeat (first | refine blk_drewN ?_ _ | refine blk_drew ?_ | refine blk_alloc ?_ _)); exact BK208.out) hb) (blk_below (g := gb209) (o := .cells #[.int .i64 t210, .int .i64 t211, .slice Ao13 t212.length co13, .int .i64 t215, .string (⟨#[]⟩ : ByteArray), .string (⟨#[]⟩ : ByteArray), .int .i64 0] 54 (0, 0)) (by (with_reducible repeat (first | refine blk_drewN ?_ _ | refine blk_drew ?_ | refine blk_alloc ?_ _)); refine blk_put (cs := #[.int .i64 t210, .int .i64 t211, .slice Ao13 t212.length co13, .int .i64 0, .string (⟨#[]⟩ : ByteArray), .string (⟨#[]⟩ : ByteArray), .int .i64 0]) ?_ 3 _ rfl; (with_reducible repeat (first | refine blk_drewN ?_ _ | refine blk_drew ?_ | refine blk_alloc ?_ _)); refine blk_put (cs := #[.int .i64 t210, .int .i64 t211, .slice none 0 0, .int .i64 0, .string (⟨#[]⟩ : ByteArray), .string (⟨#[]⟩ : ByteArray), .int .i64 0]) ?_ 2 _ rfl; (with_reducible repeat (first | refine blk_drewN ?_ _ | refine blk_drew ?_ | refine blk_alloc ?_ _)); refine blk_put (cs := #[.int .i64 t210, .int .i64 0, .slice none 0 0, .int .i64 0, .string (⟨#[]⟩ : ByteArray), .string (⟨#[]⟩ : ByteArray), .int .i64 0]) ?_ 1 _ rfl; (with_reducible repeat (first | refine blk_drewN ?_ _ | refine blk_drew ?_ | refine blk_alloc ?_ _)); refine blk_put (cs := #[.int .i64 0, .int .i64 0, .slice none 0 0, .int .i64 0, .string (⟨#[]⟩ : ByteArray), .string (⟨#[]⟩ : ByteArray), .int .i64 0]) ?_ 0 _ rfl; (with_reducible repeat (first | refine blk_drewN ?_ _ | refine blk_drew ?_ | refine blk_alloc ?_ _)); exact BK209.out) hb) (below_step zz71 hb) ?_; clear HO214 BK207 BK208 BK209 HB; intro HO214 BK207 BK208 BK209 HB; (try clear hb); (try clear hb2); (try clear hk); (try clear hi); obtain ⟨hcz16_0, hcz16_1, hcz16_2, hcz16_3, hcz16_4, hcz16_5, hcz16_6, hfz16_0, hfz16_1, hfz16_2, hfz16_3, hfz16_4, hfz16_5, hfz16_6⟩ := qc7 BK209.out; obtain ⟨hcz17_0, hcz17_1, hcz17_2, hcz17_3, hcz17_4, hcz17_5, hcz17_6, hfz17_0, hfz17_1, hfz17_2, hfz17_3, hfz17_4, hfz17_5, hfz17_6⟩ := qc7 BK208.out))
  refine bodyPost_ret (results_cell_row rfl _ _ gb208 54 #[.int .i64 t210, .int .i64 t211, .slice Ao13 t212.length co13, .int .i64 t215, .string t216, .string t217, .int .i64 t218] (0, 0) _ rfl (by (with_reducible repeat (first | refine blk_drewN ?_ _ | refine blk_drew ?_ | refine blk_alloc ?_ _)); refine blk_put (cs := #[.int .i64 t210, .int .i64 t211, .slice Ao13 t212.length co13, .int .i64 t215, .string t216, .string t217, .int .i64 0]) ?_ 6 _ rfl; (with_reducible repeat (first | refine blk_drewN ?_ _ | refine blk_drew ?_ | refine blk_alloc ?_ _)); refine blk_put (cs := #[.int .i64 t210, .int .i64 t211, .slice Ao13 t212.length co13, .int .i64 t215, .string t216, .string (⟨#[]⟩ : ByteArray), .int .i64 0]) ?_ 5 _ rfl; (with_reducible repeat (first | refine blk_drewN ?_ _ | refine blk_drew ?_ | refine blk_alloc ?_ _)); refine blk_put (cs := #[.int .i64 t210, .int .i64 t211, .slice Ao13 t212.length co13, .int .i64 t215, .string (⟨#[]⟩ : ByteArray), .string (⟨#[]⟩ : ByteArray), .int .i64 0]) ?_ 4 _ rfl; (with_reducible repeat (first | refine blk_drewN ?_ _ | refine blk_drew ?_ | refine blk_alloc ?_ _)); refine blk_put (cs := #[.int .i64 t210, .int .i64 t211, .slice Ao13 t212.length co13, .int .i64 0, .string (⟨#[]⟩ : ByteArray), .string (⟨#[]⟩ : ByteArray), .int .i64 0]) ?_ 3 _ rfl; (with_reducible repeat (first | refine blk_drewN ?_ _ | refine blk_drew ?_ | refine blk_alloc ?_ _)); refine blk_put (cs := #[.int .i64 t210, .int .i64 t211, .slice none 0 0, .int .i64 0, .string (⟨#[]⟩ : ByteArray), .string (⟨#[]⟩ : ByteArray), .int .i64 0]) ?_ 2 _ rfl; (with_reducible repeat (first | refine blk_drewN ?_ _ | refine blk_drew ?_ | refine blk_alloc ?_ _)); refine blk_put (cs := #[.int .i64 t210, .int .i64 0, .slice none 0 0, .int .i64 0, .string (⟨#[]⟩ : ByteArray), .string (⟨#[]⟩ : ByteArray), .int .i64 0]) ?_ 1 _ rfl; (with_reducible repeat (first | refine blk_drewN ?_ _ | refine blk_drew ?_ | refine blk_alloc ?_ _)); refine blk_put (cs := #[.int .i64 0, .int .i64 0, .slice none 0 0, .int .i64 0, .string (⟨#[]⟩ : ByteArray), .string (⟨#[]⟩ : ByteArray), .int .i64 0]) ?_ 0 _ rfl; (with_reducible repeat (first | refine blk_drewN ?_ _ | refine blk_drew ?_ | refine blk_alloc ?_ _)); refine blk_far ?_ NB208_209.out _; (with_reducible repeat (first | refine blk_drewN ?_ _ | refine blk_drew ?_ | refine blk_alloc ?_ _)); refine blk_far ?_ NB208_209.out _; (with_reducible repeat (first | refine blk_drewN ?_ _ | refine blk_drew ?_ | refine blk_alloc ?_ _)); refine blk_far ?_ NB208_209.out _; (with_reducible repeat (first | refine blk_drewN ?_ _ | refine blk_drew ?_ | refine blk_alloc ?_ _)); exact BK208.out) Tryd.underlying54 rfl (by kernel_rfl)) rfl ?_
  exact ⟨_, zz9, by (with_reducible repeat (first | apply Kd.R_alloc | apply Kd.R_drewN | apply Kd.R_drew)); exact Kd.R_mono (Kd.R_far (p := ⟨gb208, 6, none⟩) (Kd.R_far (p := ⟨gb208, 5, none⟩) (Kd.R_far (p := ⟨gb208, 4, none⟩) (Kd.R_far (p := ⟨gb208, 3, none⟩) (Kd.R_far (p := ⟨gb208, 2, none⟩) (Kd.R_far (p := ⟨gb208, 1, none⟩) (Kd.R_far (p := ⟨gb208, 0, none⟩) (Kd.R_far (p := ⟨gb209, 6, none⟩) (Kd.R_far (p := ⟨gb209, 5, none⟩) (Kd.R_far (p := ⟨gb209, 4, none⟩) (Kd.R_types (Kd.R_types HO214.out BK209.out (by decide)) BK208.out (by decide)) (fun _ hk => hk.1.2) (.string t216)) (fun _ hk => hk.1.2) (.string t217)) (fun _ hk => hk.1.2) (.int .i64 t218)) (fun _ hk => hk.2) (.int .i64 t210)) (fun _ hk => hk.2) (.int .i64 t211)) (fun _ hk => hk.2) (.slice Ao13 t212.length co13)) (fun _ hk => hk.2) (.int .i64 t215)) (fun _ hk => hk.2) (.string t216)) (fun _ hk => hk.2) (.string t217)) (fun _ hk => hk.2) (.int .i64 t218)) (fun _ hk => trivial), zz71⟩


end Go.Proofs.YtneaeaoemhghdaaDoor.G

-- Written by a program of this session (wip/pd.py), which calls the kit's print; externals' contracts by hand.
namespace Go.Proofs.YtneaeaoemhghdaaDoor.G
open Go.Proofs.YtneaeaoemhghdaaDoorQ
open Go.RowKit Go.Proofs.YtneaeaoemhghdaaDoorW.PrintWords Go.Proofs.YtneaeaoemhghdaaDoorW.PrintLast Go.Proofs.YtneaeaoemhghdaaDoorW.PrintMore
attribute [local go_sem] max2_int min2_int max_two min_two max_three min_three max_four min_four   -- for this text's walks alone
set_option linter.unusedVariables false
set_option linter.unusedSimpArgs false

/-! ### impl_Shop_onLoom: function 33 (by hand) -/
/-- A carpet's cells. -/
def encC (x : S62) : List Value := [.int .i64 x.f0, .int .i64 x.f1, .int .i64 x.f2, .int .i64 x.f3, .int .i64 x.f4]
instance : Inhabited S62 := ⟨z62⟩
open Go.Shelf Go.Lib in
theorem onLoom_pred (loom : Int) (B : Nat) (w : World) (hB : B < w.heap.size) (hcell : w.cell? ⟨B, 0, none⟩ = some (.int .i64 loom)) :
    PredBelow Tryd.prog 57 #[.pointer (some ⟨B, 0, none⟩)] (fun x => .agg (encC x).toArray) (fun x => x.f2 == 1 && x.f3 == loom) w := fun W x hb => by
  have hc : W.cell? ⟨B, 0, none⟩ = some (.int .i64 loom) := (hb.cell (p := ⟨B, 0, none⟩) hB).trans hcell
  have hBW : B < W.heap.size := Nat.lt_of_lt_of_le hB hb.size
  have hne : B ≠ W.heap.size := by omega
  show Calls Tryd.prog 57 #[.agg #[.int .i64 x.f0, .int .i64 x.f1, .int .i64 x.f2, .int .i64 x.f3, .int .i64 x.f4], .pointer (some ⟨B, 0, none⟩)] W _
  obtain ⟨y0, y1, y2, y3, y4⟩ := x
  dsimp only
  by_cases h1 : y2 = 1
  rotate_left
  · go_enter Tryd.func57, Tryd.ntmps57
    go_wp2
    all_goals (go_ret; exact ⟨by simp_all, hb.alloc hb.size _⟩)
  subst h1
  go_enter Tryd.func57, Tryd.ntmps57
  go_wp2
  all_goals (go_ret; exact ⟨by simp_all, hb.alloc hb.size _⟩)
theorem spot_none {w : World} {ad : Addr} {v : Value} (h : w.cell? ad = some v) : ad = ⟨ad.block, ad.off, none⟩ ∧ ad.block < w.heap.size := by
  obtain ⟨b, o, s⟩ := ad
  unfold World.cell? at h
  cases hh : w.heap[b]? with
  | none => rw [hh] at h; cases h
  | some x =>
    refine ⟨?_, (Array.getElem?_eq_some_iff.1 hh).1⟩
    rw [hh] at h
    cases x with
    | cells c t f =>
      cases s with
      | none => rfl
      | some _ => simp at h
    | _ => cases h
def impl_Shop_onLoom.f (a0_0 : Int) (a0_1 : Int) (l0_2 : List (S62)) (a0_3 : Int) (a1 : Int) : Option (Int) := some (Lib.idxBy (fun _ y => y.f2 == 1 && y.f3 == a1) l0_2 default)
set_option maxHeartbeats 4000000 in
open Go.Shelf Go.Lib in
theorem impl_Shop_onLoom.calls (a0_0 : Int) (a0_1 : Int) (A0_2 : Option Addr) (c0_2 : Nat) (l0_2 : List (S62)) (a0_3 : Int) (a1 : Int) (r : Int) (w : World) (hr0_2 : Kd.C k62 w A0_2 l0_2.length l0_2) (hc0_2 : l0_2.length ≤ c0_2) (h : impl_Shop_onLoom.f a0_0 a0_1 l0_2 a0_3 a1 = some r) :
    Calls Tryd.prog 33 #[.agg #[.int .i64 a0_0, .int .i64 a0_1, .slice A0_2 l0_2.length c0_2, .int .i64 a0_3], .int .i64 a1] w fun e w' => e = .returned (.int .i64 r) ∧ Below w.heap.size w w' := by
  unfold impl_Shop_onLoom.f at h
  obtain rfl := Option.some.inj h
  clear h
  have eg : ∀ args w, (callFunc 57 args).run Tryd.prog w = .ok (.enter 57 args) w := enters_of Tryd.func57 (by kernel_rfl) rfl
  have hW : ∀ cs, Below w.heap.size w ((w.alloc (.cells cs 26)).alloc (.cells #[.int .i64 a1] 3)) := fun cs => below_alloc (below_alloc (Below.refl _ _) _) _
  have hcon : Calls Tryd.prog 56 #[.slice A0_2 l0_2.length c0_2, .func (.func 57) #[] #[.pointer (some ⟨w.heap.size + 1, 0, none⟩)]]
      ((w.alloc (.cells #[.int .i64 a0_0, .int .i64 a0_1, .slice A0_2 l0_2.length c0_2, .int .i64 a0_3] 26)).alloc (.cells #[.int .i64 a1] 3)) fun e w' => e = .returned (.int .i64 (Lib.idxBy (fun _ y => y.f2 == 1 && y.f3 == a1) l0_2 default)) ∧ Below ((w.alloc (.cells #[.int .i64 a0_0, .int .i64 a0_1, .slice A0_2 l0_2.length c0_2, .int .i64 a0_3] 26)).alloc (.cells #[.int .i64 a1] 3)).heap.size ((w.alloc (.cells #[.int .i64 a0_0, .int .i64 a0_1, .slice A0_2 l0_2.length c0_2, .int .i64 a0_3] 26)).alloc (.cells #[.int .i64 a1] 3)) w' := by
    have hWc := hW #[.int .i64 a0_0, .int .i64 a0_1, .slice A0_2 l0_2.length c0_2, .int .i64 a0_3]
    have hB : w.heap.size + 1 < ((w.alloc (.cells #[.int .i64 a0_0, .int .i64 a0_1, .slice A0_2 l0_2.length c0_2, .int .i64 a0_3] 26)).alloc (.cells #[.int .i64 a1] 3)).heap.size := by simp
    have hBc : ((w.alloc (.cells #[.int .i64 a0_0, .int .i64 a0_1, .slice A0_2 l0_2.length c0_2, .int .i64 a0_3] 26)).alloc (.cells #[.int .i64 a1] 3)).cell? ⟨w.heap.size + 1, 0, none⟩ = some (.int .i64 a1) := by simp
    have hpred := onLoom_pred a1 (w.heap.size + 1) _ hB hBc
    generalize ((w.alloc (.cells #[.int .i64 a0_0, .int .i64 a0_1, .slice A0_2 l0_2.length c0_2, .int .i64 a0_3] 26)).alloc (.cells #[.int .i64 a1] 3)) = W at hWc hB hBc hpred ⊢
    by_cases h0 : 0 < l0_2.length
    rotate_left
    · have hn : l0_2 = [] := List.eq_nil_of_length_eq_zero (by omega)
      subst hn
      show Calls Tryd.prog 56 #[.slice A0_2 0 c0_2, .func (.func 57) #[] #[.pointer (some ⟨w.heap.size + 1, 0, none⟩)]] W fun e w' => e = .returned (.int .i64 (-1)) ∧ Below W.heap.size W w'
      go_enter Tryd.func56, Tryd.ntmps56
      go_wp2
      go_loopg [5, 8] 0 (fun _ _ s8 wr => s8 = .int .i64 0 ∧ wr = W)
      case atStart => exact ⟨rfl, rfl⟩
      case round =>
        obtain ⟨rfl, rfl⟩ := hrel
        go_wp2
        go_ret
        exact ⟨rfl, Below.refl _ _⟩
    obtain ⟨ad, e, hrd⟩ := hr0_2.2.2 h0
    subst e
    have hcell : ∀ j (hj : j < l0_2.length) i v, (encC l0_2[j])[i]? = some v → w.cell? (ad.add (j * 5 + i)) = some v := fun j hj i v hi => by
      obtain ⟨c, _, hK, hcc⟩ := hrd j _ (List.getElem?_eq_getElem hj)
      have hc0 := k62_open hK
      exact hcc i v (by rw [hc0]; exact hi)
    have hz := hcell 0 h0 0 (.int .i64 (l0_2[0]).f0) rfl
    have hz' : w.cell? ad = some (.int .i64 (l0_2[0]).f0) := by simpa [Addr.add] using hz
    obtain ⟨hs, hlt⟩ := spot_none hz'
    obtain ⟨b, o, s⟩ := ad
    obtain rfl : s = none := by injection hs
    have hadd : ∀ m, (⟨b, o, none⟩ : Addr).add m = ⟨b, o + m, none⟩ := fun m => by unfold Addr.add; split <;> simp_all
    have hcon := AnyQ.slices_IndexFunc Tryd.laysQ56 5 Tryd.isAgg62 Tryd.sizeOf62 encC (fun _ => rfl) (fun x => x.f2 == 1 && x.f3 == a1) 57 #[.pointer (some ⟨w.heap.size + 1, 0, none⟩)] eg b o l0_2.length c0_2 l0_2 W
      hpred (Nat.le_refl _) hr0_2.2.1 (Nat.lt_of_lt_of_le hlt hWc.size) (fun j hj i v hi => by
        have hj' : l0_2[j]! = l0_2[j] := by rw [List.getElem!_eq_getElem?_getD, List.getElem?_eq_getElem hj]; rfl
        rw [hj'] at hi
        have h2 := hcell j hj i v hi
        rw [hadd] at h2
        rw [show o + j * 5 + i = o + (j * 5 + i) by omega]
        exact (hWc.cell (p := ⟨b, o + (j * 5 + i), none⟩) hlt).trans h2)
    rw [List.take_length] at hcon
    exact hcon
  generalize Lib.idxBy (fun _ y => y.f2 == 1 && y.f3 == a1) l0_2 default = r at hcon ⊢
  clear hr0_2 eg
  go_enter Tryd.func33, Tryd.ntmps33
  go_wp2_with (go_at_call 56; refine hcon.mono ?_; rintro e w' ⟨rfl, hb'⟩)
  go_ret
  exact ⟨rfl, (hW _).trans (hb'.mono (by simp; omega))⟩


/-! ### impl_in: function 40 -/
def impl_in.f (a0 : Int) (a1 : Int) (a2 : Int) : Option (Bool) := if a0 ≥ a1 then (some (decide (a0 ≤ a2))) else (some false)
set_option maxHeartbeats 8000000 in
set_option maxRecDepth 100000 in
theorem impl_in.calls (a0 : Int) (a1 : Int) (a2 : Int) (r : Bool) (w : World) (h : impl_in.f a0 a1 a2 = some r) :
    Calls Tryd.prog 40 #[.int .i64 a0, .int .i64 a1, .int .i64 a2] w fun e w' => e = .returned (.bool r) ∧ Drawn0 w w' := by
  have H : (if a0 ≥ a1 then (some (decide (a0 ≤ a2))) else (some false)) = some r := h
  clear h
  by_cases c4 : a0 ≥ a1
  · rw [if_pos c4] at H
    have c4b0 := decide_eq_true c4
    clear c4
    obtain rfl := Option.some.inj H
    go_enter Tryd.func40, Tryd.ntmps40
    go_wp2
    go_ret
    exact ⟨zz4, zz8⟩
  rw [if_neg c4] at H
  have c4b0 := decide_eq_false c4
  clear c4
  obtain rfl := Option.some.inj H
  go_enter Tryd.func40, Tryd.ntmps40
  go_wp2
  go_ret
  exact ⟨zz4, zz8⟩


/-! ### impl_isDay: function 35 -/
def impl_isDay.f (a0 : Int) : Option (Bool) := (impl_in.f a0 0 4000).bind fun t219 => (some t219)
set_option maxHeartbeats 8000000 in
set_option maxRecDepth 100000 in
theorem impl_isDay.calls (a0 : Int) (r : Bool) (w : World) (h : impl_isDay.f a0 = some r) :
    Calls Tryd.prog 35 #[.int .i64 a0] w fun e w' => e = .returned (.bool r) ∧ Drawn0 w w' := by
  have H : ((impl_in.f a0 0 4000).bind fun t219 => (some t219)) = some r := h
  clear h
  replace H := Option.bind_eq_some_iff.mp H
  obtain ⟨t219, A20, H⟩ := H
  replace H : (some t219) = some r := H
  have A2 := Aside0.mk A20
  clear A20
  obtain rfl := Option.some.inj H
  go_enter Tryd.func35, Tryd.ntmps35
  go_wp2_with (first | ((with_reducible refine gate_callee (f := 40) rfl ?_); refine qcall 4 Tryd.func40 rfl #[.int .i64 a0, .int .i64 0, .int .i64 4000] ?_; (with_reducible refine (impl_in.calls a0 0 4000 t219 _ A2.out).mono ?_); rintro e w' ⟨rfl, ⟨nd, rfl⟩⟩; refine ⟨_, rfl, ?_⟩))
  go_ret
  exact ⟨zz4, zz8⟩


/-! ### impl_Shop_isCarpet: function 55 -/
def impl_Shop_isCarpet.j0 : Nat → Bool → Int → Int → List (S62) → Int → Int → Int → Int → Int → Int → Option (Bool)
  | 0, _, _, _, _, _, _, _, _, _, _ => none
  | k + 1, x30, x221000, x221001, x221002, x221003, x222000, x222001, x222002, x222003, x222004 => if x30 = true then (some false) else (if x222002 = 0 then (if x222001 = 0 then (some (x222003 == 0)) else (some false)) else (if x222002 = 1 then ((impl_in.f x222003 1 x221001).bind fun t226 => (some t226)) else (if x222001 = x222000 then (some (x222003 == 0)) else (some false))))
def impl_Shop_isCarpet.f (k : Nat) (a0_0 : Int) (a0_1 : Int) (l0_2 : List (S62)) (a0_3 : Int) (a1_0 : Int) (a1_1 : Int) (a1_2 : Int) (a1_3 : Int) (a1_4 : Int) : Option (Bool) := (impl_in.f a1_0 1 500).bind fun t222 => (if t222 = true then ((impl_in.f a1_1 0 a1_0).bind fun t223 => (if t223 = true then ((impl_in.f a1_2 0 4).bind fun t224 => (if t224 = true then ((impl_in.f a1_4 0 a0_0).bind fun t225 => (impl_Shop_isCarpet.j0 k (!t225) a0_0 a0_1 l0_2 a0_3 a1_0 a1_1 a1_2 a1_3 a1_4)) else (impl_Shop_isCarpet.j0 k true a0_0 a0_1 l0_2 a0_3 a1_0 a1_1 a1_2 a1_3 a1_4))) else (impl_Shop_isCarpet.j0 k true a0_0 a0_1 l0_2 a0_3 a1_0 a1_1 a1_2 a1_3 a1_4))) else (impl_Shop_isCarpet.j0 k true a0_0 a0_1 l0_2 a0_3 a1_0 a1_1 a1_2 a1_3 a1_4))
set_option maxHeartbeats 8000000 in
set_option maxRecDepth 100000 in
theorem impl_Shop_isCarpet.calls (k : Nat) (a0_0 : Int) (a0_1 : Int) (A0_2 : Option Addr) (c0_2 : Nat) (l0_2 : List (S62)) (a0_3 : Int) (a1_0 : Int) (a1_1 : Int) (a1_2 : Int) (a1_3 : Int) (a1_4 : Int) (r : Bool) (w : World) (hr0_2 : Kd.C k62 w A0_2 l0_2.length l0_2) (hc0_2 : l0_2.length ≤ c0_2) (h : impl_Shop_isCarpet.f k a0_0 a0_1 l0_2 a0_3 a1_0 a1_1 a1_2 a1_3 a1_4 = some r) :
    Calls Tryd.prog 55 #[.agg #[.int .i64 a0_0, .int .i64 a0_1, .slice A0_2 l0_2.length c0_2, .int .i64 a0_3], .agg #[.int .i64 a1_0, .int .i64 a1_1, .int .i64 a1_2, .int .i64 a1_3, .int .i64 a1_4]] w fun e w' => e = .returned (.bool r) ∧ Below w.heap.size w w' := by
  have hu26 := Tryd.underlying26
  have hu62 := Tryd.underlying62
  have HR0_2 := Aside0.mk hr0_2
  have HC0_2 := Aside0.mk hc0_2
  clear hr0_2 hc0_2
  have HB := Aside0.mk (Below.refl w.heap.size w)
  unfold impl_Shop_isCarpet.f at h
  have H := h
  clear h
  have HC3 := Aside0.mk H
  clear H
  go_enter Tryd.func55, Tryd.ntmps55
  go_upto_region 1 with (first | ((with_reducible refine gate_dst (N := 2) rfl ?_); refine qbox (N := 2) (cs := #[.int .i64 a0_0, .int .i64 a0_1, .slice A0_2 l0_2.length c0_2, .int .i64 a0_3]) (t := 26) ?_; intro gb220 hg w4 hbox hb; refine qs4 (below_step zz20 hb) (hbox) ((zz87 : w.heap.size ≤ gb220)) ((zz87 : w.heap.size ≤ gb220)) ?_; clear HB; intro HB BK220 GW220 GE220; clear hb hbox hg) | ((with_reducible refine gate_dst (N := 3) rfl ?_); refine qbox (N := 3) (cs := #[.int .i64 a1_0, .int .i64 a1_1, .int .i64 a1_2, .int .i64 a1_3, .int .i64 a1_4]) (t := 62) ?_; intro gb221 hg w5 hbox hb; refine qs7 (blk_below (qb BK220.out) hb) (below_step zz52 hb) (hbox) ((by rw [hg]; exact (below_size zz52) : w.heap.size ≤ gb221)) ((by rw [hg]; exact (below_size zz52) : w.heap.size ≤ gb221)) ((by rw [hg]; exact Nat.ne_of_lt (blk_lt (qb BK220.out)) : gb220 ≠ gb221)) ((by rw [hg]; exact Nat.ne_of_gt (blk_lt (qb BK220.out)) : gb221 ≠ gb220)) ?_; clear BK220 HB; intro BK220 HB BK221 GW221 GE221 NB220_221 NB221_220; clear hb hbox hg))
  (try simp only [Act.put, List.setIfInBounds_toArray, List.set_cons_zero, List.set_cons_succ])
  go_cut [30] (fun v30 wc => ∃ (kq : Nat) (x30_2 : Bool), v30 = .bool x30_2 ∧ Aside0 (impl_Shop_isCarpet.j0 kq x30_2 a0_0 a0_1 l0_2 a0_3 a1_0 a1_1 a1_2 a1_3 a1_4 = some r) ∧ Aside0 (kq ≤ k) ∧ Aside0 (wc.heap[gb220]? = some (.cells #[.int .i64 a0_0, .int .i64 a0_1, (.slice A0_2 l0_2.length c0_2), .int .i64 a0_3] 26 (0, 0))) ∧ Aside0 (wc.heap[gb221]? = some (.cells #[.int .i64 a1_0, .int .i64 a1_1, .int .i64 a1_2, .int .i64 a1_3, .int .i64 a1_4] 62 (0, 0))) ∧ Aside0 (Below w.heap.size w wc))
  case first =>
    have H := HC3.out
    clear HC3
    replace H := Option.bind_eq_some_iff.mp H
    obtain ⟨t222, A60, H⟩ := H
    (try dsimp only at H)
    have A6 := Aside0.mk A60
    clear A60
    by_cases c7 : t222 = true
    rotate_left
    · replace c7 := Bool.eq_false_iff.mpr c7
      subst c7
      rw [if_neg (show ¬ (false = true) by decide)] at H
      have H' := Aside0.mk H
      clear H
      have hnb20 := NB221_220.out
      have hnc20 := NB220_221.out
      obtain ⟨hcz21_0, hcz21_1, hcz21_2, hcz21_3, hcz21_4, hfz21_0, hfz21_1, hfz21_2, hfz21_3, hfz21_4⟩ := qc5 BK221.out
      go_wp2_with (first | ((with_reducible refine gate_callee (f := 40) rfl ?_); refine qcall 7 Tryd.func40 rfl #[.int .i64 a1_0, .int .i64 1, .int .i64 500] ?_; (with_reducible refine (impl_in.calls a1_0 1 500 false _ A6.out).mono ?_); rintro e w' ⟨rfl, ⟨nd, rfl⟩⟩; refine ⟨_, rfl, ?_⟩))
      go_meet
      case rel => exact ⟨_, (true), zz4, H', ⟨zz2⟩, ⟨zz16⟩, ⟨zz17⟩, ⟨zz59⟩⟩
    subst c7
    rw [if_pos rfl] at H
    replace H := Option.bind_eq_some_iff.mp H
    obtain ⟨t223, A80, H⟩ := H
    (try dsimp only at H)
    have A8 := Aside0.mk A80
    clear A80
    by_cases c9 : t223 = true
    rotate_left
    · replace c9 := Bool.eq_false_iff.mpr c9
      subst c9
      rw [if_neg (show ¬ (false = true) by decide)] at H
      have H' := Aside0.mk H
      clear H
      have hnb18 := NB221_220.out
      have hnc18 := NB220_221.out
      obtain ⟨hcz19_0, hcz19_1, hcz19_2, hcz19_3, hcz19_4, hfz19_0, hfz19_1, hfz19_2, hfz19_3, hfz19_4⟩ := qc5 BK221.out
      go_wp2_with (first | ((with_reducible refine gate_callee (f := 40) rfl ?_); refine qcall 7 Tryd.func40 rfl #[.int .i64 a1_0, .int .i64 1, .int .i64 500] ?_; (with_reducible refine (impl_in.calls a1_0 1 500 true _ A6.out).mono ?_); rintro e w' ⟨rfl, ⟨nd, rfl⟩⟩; refine ⟨_, rfl, ?_⟩) | (go_at_call 40; (with_reducible refine (impl_in.calls a1_1 0 a1_0 false _ A8.out).mono ?_); rintro e w' ⟨rfl, ⟨nd, rfl⟩⟩))
      go_meet
      case rel => exact ⟨_, (true), zz4, H', ⟨zz2⟩, ⟨zz16⟩, ⟨zz17⟩, ⟨zz59⟩⟩
    subst c9
    rw [if_pos rfl] at H
    replace H := Option.bind_eq_some_iff.mp H
    obtain ⟨t224, A100, H⟩ := H
    (try dsimp only at H)
    have A10 := Aside0.mk A100
    clear A100
    by_cases c11 : t224 = true
    rotate_left
    · replace c11 := Bool.eq_false_iff.mpr c11
      subst c11
      rw [if_neg (show ¬ (false = true) by decide)] at H
      have H' := Aside0.mk H
      clear H
      have hnb16 := NB221_220.out
      have hnc16 := NB220_221.out
      obtain ⟨hcz17_0, hcz17_1, hcz17_2, hcz17_3, hcz17_4, hfz17_0, hfz17_1, hfz17_2, hfz17_3, hfz17_4⟩ := qc5 BK221.out
      go_wp2_with (first | ((with_reducible refine gate_callee (f := 40) rfl ?_); refine qcall 7 Tryd.func40 rfl #[.int .i64 a1_0, .int .i64 1, .int .i64 500] ?_; (with_reducible refine (impl_in.calls a1_0 1 500 true _ A6.out).mono ?_); rintro e w' ⟨rfl, ⟨nd, rfl⟩⟩; refine ⟨_, rfl, ?_⟩) | (go_at_call 40; (with_reducible refine (impl_in.calls a1_1 0 a1_0 true _ A8.out).mono ?_); rintro e w' ⟨rfl, ⟨nd, rfl⟩⟩) | (go_at_call 40; (with_reducible refine (impl_in.calls a1_2 0 4 false _ A10.out).mono ?_); rintro e w' ⟨rfl, ⟨nd, rfl⟩⟩))
      go_meet
      case rel => exact ⟨_, (true), zz4, H', ⟨zz2⟩, ⟨zz16⟩, ⟨zz17⟩, ⟨zz59⟩⟩
    subst c11
    rw [if_pos rfl] at H
    replace H := Option.bind_eq_some_iff.mp H
    obtain ⟨t225, A120, H⟩ := H
    (try dsimp only at H)
    have A12 := Aside0.mk A120
    clear A120
    have H' := Aside0.mk H
    clear H
    have hnb13 := NB221_220.out
    have hnc13 := NB220_221.out
    obtain ⟨hcz14_0, hcz14_1, hcz14_2, hcz14_3, hcz14_4, hfz14_0, hfz14_1, hfz14_2, hfz14_3, hfz14_4⟩ := qc5 BK221.out
    go_wp2_with (first | ((with_reducible refine gate_callee (f := 40) rfl ?_); refine qcall 7 Tryd.func40 rfl #[.int .i64 a1_0, .int .i64 1, .int .i64 500] ?_; (with_reducible refine (impl_in.calls a1_0 1 500 true _ A6.out).mono ?_); rintro e w' ⟨rfl, ⟨nd, rfl⟩⟩; refine ⟨_, rfl, ?_⟩) | (go_at_call 40; (with_reducible refine (impl_in.calls a1_1 0 a1_0 true _ A8.out).mono ?_); rintro e w' ⟨rfl, ⟨nd, rfl⟩⟩) | (go_at_call 40; (with_reducible refine (impl_in.calls a1_2 0 4 true _ A10.out).mono ?_); rintro e w' ⟨rfl, ⟨nd, rfl⟩⟩; obtain ⟨hcz15_0, hcz15_1, hcz15_2, hcz15_3, hfz15_0, hfz15_1, hfz15_2, hfz15_3⟩ := qc4 BK220.out) | (go_at_call 40; (with_reducible refine (impl_in.calls a1_4 0 a0_0 t225 _ A12.out).mono ?_); rintro e w' ⟨rfl, ⟨nd, rfl⟩⟩))
    go_meet
    case rel => exact ⟨_, (!t225), zz4, H', ⟨zz2⟩, ⟨zz16⟩, ⟨zz17⟩, ⟨zz59⟩⟩
  case rest =>
    clear HC3
    try clear c1
    try clear c2
    try clear p2
    try clear c4
    try clear c5
    try clear c7
    try clear c9
    try clear c11
    try clear c13
    try clear c16
    try clear c18
    try clear c20
    try clear hcz14_0
    try clear hcz14_1
    try clear hcz14_2
    try clear hcz14_3
    try clear hcz14_4
    try clear hcz15_0
    try clear hcz15_1
    try clear hcz15_2
    try clear hcz15_3
    try clear hcz17_0
    try clear hcz17_1
    try clear hcz17_2
    try clear hcz17_3
    try clear hcz17_4
    try clear hcz19_0
    try clear hcz19_1
    try clear hcz19_2
    try clear hcz19_3
    try clear hcz19_4
    try clear hcz21_0
    try clear hcz21_1
    try clear hcz21_2
    try clear hcz21_3
    try clear hcz21_4
    try clear hfz14_0
    try clear hfz14_1
    try clear hfz14_2
    try clear hfz14_3
    try clear hfz14_4
    try clear hfz15_0
    try clear hfz15_1
    try clear hfz15_2
    try clear hfz15_3
    try clear hfz17_0
    try clear hfz17_1
    try clear hfz17_2
    try clear hfz17_3
    try clear hfz17_4
    try clear hfz19_0
    try clear hfz19_1
    try clear hfz19_2
    try clear hfz19_3
    try clear hfz19_4
    try clear hfz21_0
    try clear hfz21_1
    try clear hfz21_2
    try clear hfz21_3
    try clear hfz21_4
    obtain ⟨kq, x30_2, rfl, HA, HJ2, BK220, BK221, HB⟩ := hcut
    cases kq with
    | zero => exact absurd HA.out (by simp [impl_Shop_isCarpet.j0])
    | succ kj2 =>
      have H := HA.out
      clear HA
      simp only [impl_Shop_isCarpet.j0] at H
      by_cases c22 : x30_2 = true
      · subst c22
        rw [if_pos rfl] at H
        obtain rfl := Option.some.inj H
        go_wp2
        go_ret
        exact ⟨zz9, zz59⟩
      replace c22 := Bool.eq_false_iff.mpr c22
      subst c22
      rw [if_neg (show ¬ (false = true) by decide)] at H
      by_cases c23 : a1_2 = 0
      · rw [if_pos c23] at H
        have c23b0 := beq_iff_eq.mpr c23
        have c23b1 := bne_eq_false_iff_eq.mpr c23
        clear c23
        by_cases c24 : a1_1 = 0
        rotate_left
        · rw [if_neg c24] at H
          have c24b0 := beq_eq_false_iff_ne.mpr c24
          have c24b1 := bne_iff_ne.mpr c24
          obtain rfl := Option.some.inj H
          have hnb27 := NB221_220.out
          have hnc27 := NB220_221.out
          obtain ⟨hcz28_0, hcz28_1, hcz28_2, hcz28_3, hcz28_4, hfz28_0, hfz28_1, hfz28_2, hfz28_3, hfz28_4⟩ := qc5 BK221.out
          go_wp2
          go_ret
          exact ⟨zz9, zz59⟩
        rw [if_pos c24] at H
        have c24b0 := beq_iff_eq.mpr c24
        have c24b1 := bne_eq_false_iff_eq.mpr c24
        clear c24
        obtain rfl := Option.some.inj H
        have hnb25 := NB221_220.out
        have hnc25 := NB220_221.out
        obtain ⟨hcz26_0, hcz26_1, hcz26_2, hcz26_3, hcz26_4, hfz26_0, hfz26_1, hfz26_2, hfz26_3, hfz26_4⟩ := qc5 BK221.out
        go_wp2
        go_ret
        exact ⟨zz9, zz59⟩
      rw [if_neg c23] at H
      have c23b0 := beq_eq_false_iff_ne.mpr c23
      have c23b1 := bne_iff_ne.mpr c23
      by_cases c29 : a1_2 = 1
      · rw [if_pos c29] at H
        have c29b0 := beq_iff_eq.mpr c29
        have c29b1 := bne_eq_false_iff_eq.mpr c29
        clear c29
        replace H := Option.bind_eq_some_iff.mp H
        obtain ⟨t226, A300, H⟩ := H
        replace H : (some t226) = some r := H
        have A30 := Aside0.mk A300
        clear A300
        obtain rfl := Option.some.inj H
        have hnb31 := NB221_220.out
        have hnc31 := NB220_221.out
        obtain ⟨hcz32_0, hcz32_1, hcz32_2, hcz32_3, hcz32_4, hfz32_0, hfz32_1, hfz32_2, hfz32_3, hfz32_4⟩ := qc5 BK221.out
        obtain ⟨hcz33_0, hcz33_1, hcz33_2, hcz33_3, hfz33_0, hfz33_1, hfz33_2, hfz33_3⟩ := qc4 BK220.out
        go_wp2_with (first | ((with_reducible refine gate_callee (f := 40) rfl ?_); refine qcall 49 Tryd.func40 rfl #[.int .i64 a1_3, .int .i64 1, .int .i64 a0_1] ?_; (with_reducible refine (impl_in.calls a1_3 1 a0_1 t226 _ A30.out).mono ?_); rintro e w' ⟨rfl, ⟨nd, rfl⟩⟩; refine ⟨_, rfl, ?_⟩))
        go_ret
        exact ⟨zz9, zz59⟩
      rw [if_neg c29] at H
      have c29b0 := beq_eq_false_iff_ne.mpr c29
      have c29b1 := bne_iff_ne.mpr c29
      by_cases c34 : a1_1 = a1_0
      rotate_left
      · rw [if_neg c34] at H
        have c34b0 := beq_eq_false_iff_ne.mpr c34
        have c34b1 := bne_iff_ne.mpr c34
        obtain rfl := Option.some.inj H
        have hnb37 := NB221_220.out
        have hnc37 := NB220_221.out
        obtain ⟨hcz38_0, hcz38_1, hcz38_2, hcz38_3, hcz38_4, hfz38_0, hfz38_1, hfz38_2, hfz38_3, hfz38_4⟩ := qc5 BK221.out
        go_wp2
        go_ret
        exact ⟨zz9, zz59⟩
      rw [if_pos c34] at H
      have c34b0 := beq_iff_eq.mpr c34
      have c34b1 := bne_eq_false_iff_eq.mpr c34
      clear c34
      obtain rfl := Option.some.inj H
      have hnb35 := NB221_220.out
      have hnc35 := NB220_221.out
      obtain ⟨hcz36_0, hcz36_1, hcz36_2, hcz36_3, hcz36_4, hfz36_0, hfz36_1, hfz36_2, hfz36_3, hfz36_4⟩ := qc5 BK221.out
      go_wp2
      go_ret
      exact ⟨zz9, zz59⟩


end Go.Proofs.YtneaeaoemhghdaaDoor.G
