/-
  What the listed tables give the walks.
  Conditions: none.
-/
import Derived.Test.YtkddmngbfncocaaDoorBits
import Derived.Test.YtkddmngbfncocaaDoorRows
import Derived.LaidMore
import Derived.OpenShut
import Derived.Stop.Joined
import Derived.Lib.LaidTab
namespace Go.Proofs.YtkddmngbfncocaaDoor
open Go.ChangeShapes Go.WideShapes Go.ChangeAt Go.RowKit
/-- The two listed tables. -/
def laidL : List (String × DataW Unit) := [("math/bits.deBruijn32tab", Rows.laid_math_bits_deBruijn32tab), ("math/bits.deBruijn64tab", Rows.laid_math_bits_deBruijn64tab)]
theorem g64 : Tryd.prog.globalNamed "math/bits.deBruijn64tab" = some 1 := by kernel_rfl
theorem t64 : (Tryd.prog.globals[1]?).map (·.type) = some 57 := by kernel_rfl
theorem door_met (os : Os) (args : Array Value) : laidMetH Tryd.prog laidL ((World.doorLaid Tryd.prog 400 os).forCall (fun _ _ => 0) ⟨#[], args, []⟩).memory :=
  laidMetH_of_parts3 (fuel := 8) (laidMet_of_run' 8 (by kernel_rfl) (by kernel_rfl)) (by kernel_rfl) (by kernel_rfl)
def tab64 : List Int := Lib.deBruijn64tab.map fun n : Nat => (n : Int)
theorem laid64 : (Rows.laid_math_bits_deBruijn64tab : DataW Unit) = Lib.tabData .u8 tab64 := by rfl
theorem tab_of_laid {W : World} (h : laidMetH Tryd.prog laidL W) : TabAt 1 Lib.deBruijn64tab W := by
  rw [MakeChecks.laidMetH_plain _ _ _ (by kernel_rfl)] at h
  obtain ⟨ps, ⟨g0, t0, cs0, f0, p0, q0, hg0, ht0, hv0, hd0, ⟨g1, t1, cs1, f1, p1, q1, hg1, ht1, hv1, hd1, _, _⟩, _⟩, _, _⟩ := h
  obtain rfl := Option.some.inj (g64.symm.trans hg1)
  obtain rfl := Option.some.inj (t64.symm.trans ht1)
  have hc := Lib.cells_of_tab Tryd.underlying57 Tryd.underlying5 (by kernel_rfl) (by kernel_rfl) (laid64 ▸ hd1)
  intro j hj
  rw [World.var?_cell hg1 hv1 j]
  obtain ⟨l1⟩ := cs1
  have hl : l1 = tab64.map fun z => Value.int .u8 z := hc
  rw [hl]
  show (List.toArray (tab64.map fun z => Value.int .u8 z))[j]? = _
  unfold tab64
  rw [List.getElem?_toArray, List.map_map, List.getElem?_map, List.getElem?_eq_getElem hj, List.getD_eq_getElem?_getD, List.getElem?_eq_getElem hj]
  rfl
end Go.Proofs.YtkddmngbfncocaaDoor
