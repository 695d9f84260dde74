/- What the rows of this seat share: what the listed variables give the walks, a world for the witnesses, and a log as an argument. -/
import Derived.Test.YtokmidpeeejahaaDoorCards
import Derived.Test.YtokmidpeeejahaaDoorTie
import Derived.WalkKit
import Derived.ProofKit
import Derived.OpenShut
import Derived.Deep.DeepHandedRow
import Derived.Lib.LaidTab
import Derived.Lib.SmallJoins
import Derived.Carry
import Derived.ShutString
import Derived.ChangeOld
import Derived.Shelf.Vars
import Derived.Test.YtokmidpeeejahaaDoorTGx3
import Derived.Test.YtokmidpeeejahaaDoorTGx0
namespace Go.Proofs.YtokmidpeeejahaaDoor.G
open Go.ChangeShapes Go.WideShapes Go.ChangeAt Go.RowKit Go.Joins
open Go.ChangeMaps (open_string shut_string)
set_option linter.unusedVariables false

theorem own : ownKnob Tryd.prog.godebug = none := by kernel_rfl
theorem laidOut : laidOutB Tryd.prog = true := by kernel_rfl
theorem cells23 : Tryd.prog.cellsOf 23 = 3 := by kernel_rfl

/-- The rows' list of variables. -/
abbrev laid3 : List (String × DataW Unit) := [("math/bits.deBruijn32tab", Rows.laid_math_bits_deBruijn32tab), ("math/bits.deBruijn64tab", Rows.laid_math_bits_deBruijn64tab), ("internal/strconv.uint64pow10", Rows.laid_internal_strconv_uint64pow10)]
set_option maxRecDepth 100000 in
theorem Gl_of {W : World} (hL : laidMetH Tryd.prog laid3 W) (hsh : W.ShapedOpen Tryd.prog) : Gl W := by
  refine ⟨cell_of_shapedOpen_int (zero := #[.int .i64 0]) (t := 3) hsh (of_decide_eq_true (by kernel_rfl)) (by kernel_rfl) rfl (by kernel_rfl) (by kernel_rfl) Tryd.underlying3, ?_⟩
  have h : laidMet Tryd.prog laid3 W := hL
  obtain ⟨ps, ⟨g0, t0, cs0, f0, p0, q0, _, _, _, _, ⟨g1, t1, cs1, f1, p1, q1, _, _, _, _, ⟨g2, t2, cs2, f2, p2, q2, hg, ht, hv, hd, _⟩, _⟩, _⟩, _⟩ := h
  obtain rfl := Option.some.inj (gPow.symm.trans hg)
  obtain rfl := Option.some.inj ((show (Tryd.prog.globals[1]?).map (·.type) = some 115 by kernel_rfl).symm.trans ht)
  have hd' : DataW.trod (fun _ => ()) Tryd.prog W 0 (fun _ => true) false f2 115 cs2.toList = some (Lib.tabData .u64 Lib.pow10Tab, p2) := hd
  have e := Lib.cells_of_tab Tryd.underlying115 Tryd.underlying68 (by kernel_rfl) (by kernel_rfl) hd'
  unfold Lib.TabIs
  rw [hv, ← e]

set_option maxRecDepth 100000 in
/-- A world for the witnesses: the settled one, with the listed tables laid. -/
noncomputable def laidWorld (os : Os) : World :=
  { World.holding Tryd.prog os ⟨#[], #[], []⟩ with heap := (((World.holding Tryd.prog os ⟨#[], #[], []⟩).heap.modify 2 (lays (cells (H := Unit) Rows.laid_math_bits_deBruijn32tab))).modify 3 (lays (cells (H := Unit) Rows.laid_math_bits_deBruijn64tab))).modify 1 (lays (cells (H := Unit) Rows.laid_internal_strconv_uint64pow10)) }
where
  lays (cs : Array Value) : Obj → Obj
    | .cells _ t frozen => .cells cs t frozen
    | o => o
  cells {H : Type} : DataW H → Array Value
    | .agg l => (l.filterMap fun | .lit (.int k n) => some (Value.int k n) | _ => none).toArray
    | _ => #[]

section
variable {H : Type} {enc : TypeId × Value → H} {W : World}
set_option maxRecDepth 100000 in
/-- A log as an argument. -/
theorem open_log {base : Nat} {v : Value} {d : DataW H} {p : List MemPlace} (hv : Value.okWide Tryd.prog W .any base 23 v) (h : DataW.Trod enc Tryd.prog W 0 (fun _ => true) true 23 v d p) :
    ∃ (D P : ByteArray) (n : Int), v = .agg #[.string D, .string P, .int .i64 n] ∧ d = .agg [.lit (.string D.data.toList), .lit (.string P.data.toList), .lit (.int .i64 n)] ∧ p = [] ∧ (Lit.int .i64 n).wf = true := by
  obtain ⟨c0, c1, c2, y0, y1, y2, m, rfl, rfl, rfl, h0, h1, h2⟩ := open_agg3 Tryd.underlying23 (by kernel_rfl) cells23 hv h
  obtain ⟨D, e0, rfl, w0⟩ := DataW.trod_string Tryd.underlying9 h0
  obtain ⟨P, e1, rfl, w1⟩ := DataW.trod_string Tryd.underlying9 h1
  obtain ⟨n, e2, rfl, w2⟩ := DataW.trod_int Tryd.underlying3 h2
  simp at e0 e1 e2
  subst e0 e1 e2
  exact ⟨D, P, n, rfl, rfl, rfl, w2⟩
set_option maxRecDepth 100000 in
theorem sized_log {ts : List TypeId} {ds : List (DataW H)} (h : (DataW.weightsEach Tryd.prog ts ds).all (· ≤ reachBytes) = true) {j : Nat} {D P : ByteArray} {n : Int} (ht : ts[j]? = some 23)
    (hd : ds[j]? = some (.agg [.lit (.string D.data.toList), .lit (.string P.data.toList), .lit (.int .i64 n)])) : D.size ≤ 140737488351232 ∧ P.size ≤ 140737488351232 := by
  have a := List.all_eq_true.1 h _ (DataW.weights_mem_each ht hd D.data.toList.length (by simp [DataW.weights, DataW.weightsEach, Tryd.underlying23]))
  have b := List.all_eq_true.1 h _ (DataW.weights_mem_each ht hd P.data.toList.length (by simp [DataW.weights, DataW.weightsEach, Tryd.underlying23]))
  rw [decide_eq_true_eq, Array.length_toList] at a b
  exact ⟨a, b⟩
end
end Go.Proofs.YtokmidpeeejahaaDoor.G
