-- Written by a program of this session (wip/pd.py), which calls the kit's print; externals' contracts by hand.
import Derived.Test.YtokmidpeeejahaaDoorProg
import Derived.Below
import Derived.Deep.Draws
import Derived.Deep.AppendLies
import Derived.Maps.AppendAt
import Derived.OwnWalk
import Derived.Laws.BytesArg
import Derived.Laws.MakeOwn
import Derived.Laws.OwnMore
import Derived.Deep.OwnRows
import Derived.Tactics
import Derived.Lib.ConvBytes
import Derived.Laws.Slices
import Derived.WalkKit
import Derived.KernelRfl
import Derived.RowKit3
import Derived.Deep.LoopGhost
import Derived.Deep.QuietTactic
import Derived.BigQuiet
import Derived.WideLaws
import Derived.Deep.DeepCutAuto
import Derived.Deep.CutBlock
import Derived.Deep.RegionHeld3
import Derived.Laws.Rows
import Derived.Lib.AppendStr
import Derived.ArgAppend
import Derived.Laws.IdiomCopy
import Derived.OrdersHeld
import Derived.Laws.BitsLemmas
import Derived.RowKit
import Derived.IntWalk
import Derived.Lib.ItoaNum
import Derived.Lib.Hide
import Derived.Lib.SmallJoins
import Derived.Lib.AppendIntMem
import Derived.Lib.LaidTab
import Derived.Lib.SliceRun
import Derived.Test.YtokmidpeeejahaaDoorSShelf
import Derived.Test.YtokmidpeeejahaaDoorSWWords
import Derived.Test.YtokmidpeeejahaaDoorSWLast
import Derived.Test.YtokmidpeeejahaaDoorSWTab
import Derived.Test.YtokmidpeeejahaaDoorSWFour
import Derived.Test.YtokmidpeeejahaaDoorSWQPut
import Derived.Test.YtokmidpeeejahaaDoorSWApart
import Derived.Test.YtokmidpeeejahaaDoorSWArr
import Derived.Test.YtokmidpeeejahaaDoorSWZeros
import Derived.Test.YtokmidpeeejahaaDoorSWFoot
import Derived.Test.YtokmidpeeejahaaDoorSWKept
import Derived.Test.YtokmidpeeejahaaDoorSWShare
import Derived.Test.YtokmidpeeejahaaDoorSWN
import Derived.Test.YtokmidpeeejahaaDoorSWFootNe
import Derived.Test.YtokmidpeeejahaaDoorSWAt
import Derived.Test.YtokmidpeeejahaaDoorSWEqStruct
import Derived.Test.YtokmidpeeejahaaDoorSWRepsOne
import Derived.Test.YtokmidpeeejahaaDoorSWInv
import Derived.Test.YtokmidpeeejahaaDoorSWInvWords
import Derived.Test.YtokmidpeeejahaaDoorSWGuard
import Derived.Test.YtokmidpeeejahaaDoorSWNEv
import Derived.Test.YtokmidpeeejahaaDoorSWMore
namespace Go.Proofs.YtokmidpeeejahaaDoor.G
open Go.RowKit Go.Proofs.YtokmidpeeejahaaDoorW.PrintWords Go.Proofs.YtokmidpeeejahaaDoorW.PrintLast Go.Proofs.YtokmidpeeejahaaDoorW.PrintMore
attribute [local go_sem] max2_int min2_int max_two min_two max_three min_three max_four min_four   -- for this text's walks alone
set_option linter.unusedVariables false
set_option linter.unusedSimpArgs false



def errW : Option Int → Value
  | none => .nilIface
  | some c => .iface 0 (.int .i64 c)
theorem errW_none : errW none = .nilIface := rfl
theorem errW_some (c : Int) : errW (some c) = .iface 0 (.int .i64 c) := rfl

theorem info3 : (Tryd.prog.info? 3).map (fun i => (i.zero, i.size, i.bytes)) = some (some (.int .i64 0), 1, 8) := by kernel_rfl
theorem info9 : (Tryd.prog.info? 9).map (fun i => (i.zero, i.size, i.bytes)) = some (some (.string ⟨#[]⟩), 1, 16) := by kernel_rfl
theorem info40 : (Tryd.prog.info? 40).map (fun i => (i.zero, i.size, i.bytes)) = some (some (.agg #[(.string ⟨#[]⟩), (.string ⟨#[]⟩)]), 2, 32) := by kernel_rfl
-- the values' own types
/-! #### struct type 40 -/
structure S40 where
  f0 : ByteArray
  f1 : ByteArray
def z40 : S40 := ⟨(⟨#[]⟩ : ByteArray), (⟨#[]⟩ : ByteArray)⟩
def k40 : Kd S40 := Kd.iso (Kd.pair Kd.string Kd.string) (fun x : S40 => (x.f0, x.f1))
theorem k40_mkM (w : World) (base : Nat) (ok : Nat → Prop) (x : S40)  : k40.M w base ok x [.string x.f0, .string x.f1] := ⟨[.string x.f0], [.string x.f1], rfl, rfl, rfl⟩
def rd_T40 (xs : List S40) (i : Int) : S40 := xs.getD i.toNat z40
/-! #### struct type 26 -/
structure S26 where
  f0 : ByteArray
  f1 : ByteArray
  f2 : Int
/-- A string's '+', and a cut of a string: names that the walk's simp doesn't look behind. -/
def cat (a b : ByteArray) : ByteArray := a ++ b
def subs (s : ByteArray) (i j : Nat) : ByteArray := s.extract i j
section
variable {P : Program} (w : World)
theorem run_add_cat (a b : ByteArray) : (Op.stringOp .add a b).run P w =
    if a.size + b.size > 9223372036854775807 then .halt (.unsupported (.resourceLimit "string concatenation: a sum of the lengths that is no int")) w else .ok (.string (cat a b)) w := run_string_add_if w a b
theorem run_slice_cat (t : TypeId) (s : ByteArray) (k k' : IntKind) (i j : Int) (h : P.underlying t = some .string) (h0 : 0 ≤ i) (h1 : i ≤ j) (h2 : j ≤ s.size) :
    (Instr.slice t (.string s) (some (.int k i)) (some (.int k' j)) none).run P w = .ok (.string (subs s i.toNat j.toNat)) w := run_slice_string w t s k k' i j h h0 h1 h2
theorem run_slice_cat_h (t : TypeId) (s : ByteArray) (ht : P.underlying t = some .string) (kh : IntKind) (h : Int) (h0 : 0 ≤ h) (h2 : h ≤ s.size) :
    (Instr.slice t (.string s) none (some (.int kh h)) none).run P w = .ok (.string (subs s 0 h.toNat)) w := by simpa [subs] using run_slice_string_h w t s ht kh h h0 h2
theorem run_slice_cat_l (t : TypeId) (s : ByteArray) (ht : P.underlying t = some .string) (kl : IntKind) (l : Int) (h0 : 0 ≤ l) (h1 : l ≤ s.size) :
    (Instr.slice t (.string s) (some (.int kl l)) none none).run P w = .ok (.string (subs s l.toNat s.size)) w := by simpa [subs] using run_slice_string_l w t s ht kl l h0 h1
theorem run_slice_cat_all (t : TypeId) (s : ByteArray) (ht : P.underlying t = some .string) :
    (Instr.slice t (.string s) none none none).run P w = .ok (.string (subs s 0 s.size)) w := by simpa [subs] using run_slice_string_all w t s ht
end
/-- What calls of the library lean on: 'bytealg.MaxLen' holds some number, the table of powers of ten is as its text lays it. -/
def Gl (w : World) : Prop := (∃ m, w.cell? ⟨0, 0, none⟩ = some (.int .i64 m)) ∧ Lib.TabIs Tryd.prog w "internal/strconv.uint64pow10" .u64 Lib.pow10Tab
theorem gPow : Tryd.prog.globalNamed "internal/strconv.uint64pow10" = some 1 := by kernel_rfl
theorem Gl.below {w w' : World} (h : Gl w) (hb : Below w.heap.size w w') : Gl w' :=
  ⟨let ⟨m, hm⟩ := h.1; ⟨m, pw_cell_below hb hm⟩, Joins.tab_stays gPow h.2 hb (Nat.le_refl _)⟩
theorem below_bytesWorld (w : World) (e : TypeId) (s : ByteArray) : Below w.heap.size w (Lib.bytesWorld w e s) :=
  ⟨rfl, rfl, rfl, by rw [Lib.bytesWorld_size]; omega, fun j hj => Lib.bytesWorld_at_old w e s j hj⟩
/-- A text as a row of bytes, and back. -/
def natsOf (l : List UInt8) : List Int := l.map fun b => (b.toNat : Int)
theorem strOf_nats (l : List UInt8) : strOfNums (natsOf l) = ⟨l.toArray⟩ := by
  unfold strOfNums natsOf
  apply ByteArray.ext
  simp
  exact (List.map_congr_left (fun b _ => by simp)).trans (List.map_id _)
theorem bytes_blk (W : World) (s : ByteArray) : ∃ ys, (Lib.bytesWorld W 5 s).heap[W.heap.size]? = some (.cells (((natsOf s.data.toList).map (Value.int .u8)) ++ ys).toArray 5 (((natsOf s.data.toList).map (Value.int .u8) ++ ys).length, ((natsOf s.data.toList).map (Value.int .u8) ++ ys).length + 1)) := by
  refine ⟨List.replicate (grownCap W s.size 0 5 - s.size) (.int .u8 0), ?_⟩
  rw [Lib.bytesWorld_at_new]
  have : Lib.bytesCells W 5 s = ((natsOf s.data.toList).map (Value.int .u8) ++ List.replicate (grownCap W s.size 0 5 - s.size) (Value.int .u8 0)).toArray := by
    unfold Lib.bytesCells natsOf
    apply Array.ext'
    simp
  rw [this]
  simp
theorem row_reads {W : World} {g : Nat} {xs : List Int} {ys : List Value} {fr : Nat × Nat} (h : W.heap[g]? = some (.cells ((xs.map (Value.int .u8)) ++ ys).toArray 5 fr)) (hs : xs.length ≤ 9223372036854775807) : ReadsInt W .u8 (some ⟨g, 0, none⟩) xs.length xs := by
  refine ⟨rfl, hs, fun _ => ⟨_, rfl, fun j hj => ?_⟩⟩
  rw [add_plain, cell_of_row W g j _ _ _ h]
  simp [List.getElem?_append, hj, List.getD_eq_getElem?_getD]
theorem back_bytes (W : World) (s : ByteArray) (c : Nat) (hs : s.size ≤ 9223372036854775807) :
    (convert 48 9 (.slice (some ⟨W.heap.size, 0, none⟩) s.size c)).run Tryd.prog (Lib.bytesWorld W 5 s) = .ok (.string s) (Lib.bytesWorld W 5 s) := by
  obtain ⟨ys, hb⟩ := bytes_blk W s
  have hl : (natsOf s.data.toList).length = s.size := by unfold natsOf; rw [List.length_map]; rfl
  have := row_reads hb (by omega)
  rw [hl] at this
  rw [string_of_reads Tryd.underlying48 Tryd.underlying5 Tryd.underlying9 this, strOf_nats]
theorem bytes_frozen (W : World) (s : ByteArray) (j : Nat) (hj : j < s.size) : (Lib.bytesWorld W 5 s).frozen? ⟨W.heap.size, j, none⟩ = false := by
  obtain ⟨ys, hb⟩ := bytes_blk W s
  have hl : (natsOf s.data.toList).length = s.size := by unfold natsOf; rw [List.length_map]; rfl
  unfold World.frozen?
  rw [hb]
  simp only [List.length_append, List.length_map, hl]
  rw [decide_eq_false (by omega)]
  rfl
theorem bytes_cell (W : World) (s : ByteArray) (j : Nat) (hj : j < s.size) : (Lib.bytesWorld W 5 s).cell? ⟨W.heap.size, j, none⟩ = some (.int .u8 ((s.data.toList.getD j 0).toNat : Int)) := Lib.bytesWorld_cell W 5 s j hj
theorem back_torn (W : World) (s : ByteArray) (c j : Nat) (v : UInt8) (hj : j < s.size) (hs : s.size ≤ 9223372036854775807) :
    (convert 48 9 (.slice (some ⟨W.heap.size, 0, none⟩) s.size c)).run Tryd.prog ((Lib.bytesWorld W 5 s).setCell ⟨W.heap.size, j, none⟩ (.int .u8 (v.toNat : Int))) =
      .ok (.string ⟨(s.data.toList.set j v).toArray⟩) ((Lib.bytesWorld W 5 s).setCell ⟨W.heap.size, j, none⟩ (.int .u8 (v.toNat : Int))) := by
  obtain ⟨ys, hb⟩ := bytes_blk W s
  have hl : (natsOf s.data.toList).length = s.size := by unfold natsOf; rw [List.length_map]; rfl
  have hl2 : (natsOf (s.data.toList.set j v)).length = s.size := by unfold natsOf; rw [List.length_map, List.length_set]; rfl
  have hb2 : ((Lib.bytesWorld W 5 s).setCell ⟨W.heap.size, j, none⟩ (.int .u8 (v.toNat : Int))).heap[W.heap.size]? = some (.cells (((natsOf (s.data.toList.set j v)).map (Value.int .u8)) ++ ys).toArray 5 (((natsOf s.data.toList).map (Value.int .u8) ++ ys).length, ((natsOf s.data.toList).map (Value.int .u8) ++ ys).length + 1)) := by
    simp only [World.setCell, Array.getElem?_modify, hb]
    simp only [if_true, Option.map_some]
    congr 2
    apply Array.ext'
    simp only [List.setIfInBounds_toArray]
    rw [List.set_append_left _ _ (by rw [List.length_map, hl]; exact hj)]
    unfold natsOf
    rw [List.map_map, List.map_map, List.map_set]
    rfl
  have := row_reads hb2 (by omega)
  rw [hl2] at this
  rw [string_of_reads Tryd.underlying48 Tryd.underlying5 Tryd.underlying9 this, strOf_nats]

/-- What is kept of the pending bytes, the last one turned. -/
def tear (P : ByteArray) (n : Nat) (torn : Bool) : ByteArray := if torn = true ∧ 0 < n then ⟨((subs P 0 n).data.toList.set (n - 1) (255 - (subs P 0 n).data.toList.getD (n - 1) 0)).toArray⟩ else subs P 0 n
theorem size_subs (P : ByteArray) (n : Nat) (h : n ≤ P.size) : (subs P 0 n).size = n := by unfold subs; rw [ByteArray.size_extract]; omega
end Go.Proofs.YtokmidpeeejahaaDoor.G
