-- Written by a program of this session (wip/pd.py), which calls the kit's print; externals' contracts by hand.
import Derived.Test.YtokmidpeeejahaaDoorProg
import Derived.Below
import Derived.Deep.Draws
import Derived.Deep.AppendLies
import Derived.Maps.AppendAt
import Derived.OwnWalk
import Derived.Laws.BytesArg
import Derived.Laws.MakeOwn
import Derived.Laws.OwnMore
import Derived.Deep.OwnRows
import Derived.Tactics
import Derived.Lib.ConvBytes
import Derived.Laws.Slices
import Derived.WalkKit
import Derived.KernelRfl
import Derived.RowKit3
import Derived.Deep.LoopGhost
import Derived.Deep.QuietTactic
import Derived.BigQuiet
import Derived.WideLaws
import Derived.Deep.DeepCutAuto
import Derived.Deep.CutBlock
import Derived.Deep.RegionHeld3
import Derived.Laws.Rows
import Derived.Lib.AppendStr
import Derived.ArgAppend
import Derived.Laws.IdiomCopy
import Derived.OrdersHeld
import Derived.Laws.BitsLemmas
import Derived.RowKit
import Derived.IntWalk
import Derived.Lib.ItoaNum
import Derived.Lib.Hide
import Derived.Lib.SmallJoins
import Derived.Lib.AppendIntMem
import Derived.Lib.LaidTab
import Derived.Lib.SliceRun
import Derived.Test.YtokmidpeeejahaaDoorUShelf
import Derived.Test.YtokmidpeeejahaaDoorUWWords
import Derived.Test.YtokmidpeeejahaaDoorUWLast
import Derived.Test.YtokmidpeeejahaaDoorUWTab
import Derived.Test.YtokmidpeeejahaaDoorUWFour
import Derived.Test.YtokmidpeeejahaaDoorUWQPut
import Derived.Test.YtokmidpeeejahaaDoorUWApart
import Derived.Test.YtokmidpeeejahaaDoorUWArr
import Derived.Test.YtokmidpeeejahaaDoorUWZeros
import Derived.Test.YtokmidpeeejahaaDoorUWFoot
import Derived.Test.YtokmidpeeejahaaDoorUWKept
import Derived.Test.YtokmidpeeejahaaDoorUWShare
import Derived.Test.YtokmidpeeejahaaDoorUWN
import Derived.Test.YtokmidpeeejahaaDoorUWFootNe
import Derived.Test.YtokmidpeeejahaaDoorUWAt
import Derived.Test.YtokmidpeeejahaaDoorUWEqStruct
import Derived.Test.YtokmidpeeejahaaDoorUWRepsOne
import Derived.Test.YtokmidpeeejahaaDoorUWInv
import Derived.Test.YtokmidpeeejahaaDoorUWInvWords
import Derived.Test.YtokmidpeeejahaaDoorUWGuard
import Derived.Test.YtokmidpeeejahaaDoorUWNEv
import Derived.Test.YtokmidpeeejahaaDoorUWMore
namespace Go.Proofs.YtokmidpeeejahaaDoor.G
open Go.RowKit Go.Proofs.YtokmidpeeejahaaDoorW.PrintWords Go.Proofs.YtokmidpeeejahaaDoorW.PrintLast Go.Proofs.YtokmidpeeejahaaDoorW.PrintMore
attribute [local go_sem] max2_int min2_int max_two min_two max_three min_three max_four min_four   -- for this text's walks alone
set_option linter.unusedVariables false
set_option linter.unusedSimpArgs false



def errW : Option Int → Value
  | none => .nilIface
  | some c => .iface 0 (.int .i64 c)
theorem errW_none : errW none = .nilIface := rfl
theorem errW_some (c : Int) : errW (some c) = .iface 0 (.int .i64 c) := rfl

theorem info3 : (Tryd.prog.info? 3).map (fun i => (i.zero, i.size, i.bytes)) = some (some (.int .i64 0), 1, 8) := by kernel_rfl
theorem info5 : (Tryd.prog.info? 5).map (fun i => (i.zero, i.size, i.bytes)) = some (some (.int .u8 0), 1, 1) := by kernel_rfl
theorem info9 : (Tryd.prog.info? 9).map (fun i => (i.zero, i.size, i.bytes)) = some (some (.string ⟨#[]⟩), 1, 16) := by kernel_rfl
theorem info40 : (Tryd.prog.info? 40).map (fun i => (i.zero, i.size, i.bytes)) = some (some (.agg #[(.string ⟨#[]⟩), (.string ⟨#[]⟩)]), 2, 32) := by kernel_rfl
-- the values' own types
/-! #### struct type 40 -/
structure S40 where
  f0 : ByteArray
  f1 : ByteArray
def z40 : S40 := ⟨(⟨#[]⟩ : ByteArray), (⟨#[]⟩ : ByteArray)⟩
def k40 : Kd S40 := Kd.iso (Kd.pair Kd.string Kd.string) (fun x : S40 => (x.f0, x.f1))
theorem k40_mkM (w : World) (base : Nat) (ok : Nat → Prop) (x : S40)  : k40.M w base ok x [.string x.f0, .string x.f1] := ⟨[.string x.f0], [.string x.f1], rfl, rfl, rfl⟩
def rd_T40 (xs : List S40) (i : Int) : S40 := xs.getD i.toNat z40
/-! #### struct type 26 -/
structure S26 where
  f0 : ByteArray
  f1 : ByteArray
  f2 : Int
/-- A string's '+', and a cut of a string: names that the walk's simp doesn't look behind. -/
def cat (a b : ByteArray) : ByteArray := a ++ b
def subs (s : ByteArray) (i j : Nat) : ByteArray := s.extract i j
section
variable {P : Program} (w : World)
theorem run_add_cat (a b : ByteArray) : (Op.stringOp .add a b).run P w =
    if a.size + b.size > 9223372036854775807 then .halt (.unsupported (.resourceLimit "string concatenation: a sum of the lengths that is no int")) w else .ok (.string (cat a b)) w := run_string_add_if w a b
theorem run_slice_cat (t : TypeId) (s : ByteArray) (k k' : IntKind) (i j : Int) (h : P.underlying t = some .string) (h0 : 0 ≤ i) (h1 : i ≤ j) (h2 : j ≤ s.size) :
    (Instr.slice t (.string s) (some (.int k i)) (some (.int k' j)) none).run P w = .ok (.string (subs s i.toNat j.toNat)) w := run_slice_string w t s k k' i j h h0 h1 h2
theorem run_slice_cat_h (t : TypeId) (s : ByteArray) (ht : P.underlying t = some .string) (kh : IntKind) (h : Int) (h0 : 0 ≤ h) (h2 : h ≤ s.size) :
    (Instr.slice t (.string s) none (some (.int kh h)) none).run P w = .ok (.string (subs s 0 h.toNat)) w := by simpa [subs] using run_slice_string_h w t s ht kh h h0 h2
theorem run_slice_cat_l (t : TypeId) (s : ByteArray) (ht : P.underlying t = some .string) (kl : IntKind) (l : Int) (h0 : 0 ≤ l) (h1 : l ≤ s.size) :
    (Instr.slice t (.string s) (some (.int kl l)) none none).run P w = .ok (.string (subs s l.toNat s.size)) w := by simpa [subs] using run_slice_string_l w t s ht kl l h0 h1
theorem run_slice_cat_all (t : TypeId) (s : ByteArray) (ht : P.underlying t = some .string) :
    (Instr.slice t (.string s) none none none).run P w = .ok (.string (subs s 0 s.size)) w := by simpa [subs] using run_slice_string_all w t s ht
end
/-- What calls of the library lean on: 'bytealg.MaxLen' holds some number, the table of powers of ten is as its text lays it. -/
def Gl (w : World) : Prop := (∃ m, w.cell? ⟨0, 0, none⟩ = some (.int .i64 m)) ∧ Lib.TabIs Tryd.prog w "internal/strconv.uint64pow10" .u64 Lib.pow10Tab
theorem gPow : Tryd.prog.globalNamed "internal/strconv.uint64pow10" = some 1 := by kernel_rfl
theorem Gl.below {w w' : World} (h : Gl w) (hb : Below w.heap.size w w') : Gl w' :=
  ⟨let ⟨m, hm⟩ := h.1; ⟨m, pw_cell_below hb hm⟩, Joins.tab_stays gPow h.2 hb (Nat.le_refl _)⟩
theorem below_bytesWorld (w : World) (e : TypeId) (s : ByteArray) : Below w.heap.size w (Lib.bytesWorld w e s) :=
  ⟨rfl, rfl, rfl, by rw [Lib.bytesWorld_size]; omega, fun j hj => Lib.bytesWorld_at_old w e s j hj⟩
end Go.Proofs.YtokmidpeeejahaaDoor.G
