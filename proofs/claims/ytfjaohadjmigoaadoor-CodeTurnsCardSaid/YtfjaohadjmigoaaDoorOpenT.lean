/- The table of math/bits as the program's text lays it. -/
import Derived.Test.YtfjaohadjmigoaaDoorRows
import Derived.Test.YtfjaohadjmigoaaDoorOpen0
import Derived.Test.YtfjaohadjmigoaaDoorTz32
import Derived.Lib.LaidTab
import Derived.Stop.Joined
import Derived.LaidMore
namespace Go.Proofs.YtfjaohadjmigoaaDoor
open Go.ChangeShapes Go.WideShapes Go.ChangeAt Go.RowKit

theorem tab_named : Tryd.prog.globalNamed "math/bits.deBruijn32tab" = some 0 := by kernel_rfl
theorem tab_type : (Tryd.prog.globals[0]?).map (·.type) = some 74 := by kernel_rfl
theorem tab_cells : Tryd.prog.cellsOf 74 = 32 := by kernel_rfl
theorem tab_cell1 : Tryd.prog.cellsOf 5 = 1 := by kernel_rfl
/-- where i stands: the table's number at tzIdx i -/
def tabZ : List Int := [0, 1, 28, 2, 29, 14, 24, 3, 30, 22, 20, 15, 25, 17, 4, 8, 31, 27, 13, 23, 21, 19, 16, 7, 26, 12, 18, 6, 11, 5, 10, 9]
theorem tabZ_at : ∀ i : Fin 32, tabZ.getD (tzIdx i.val) 0 = (i.val : Int) := by decide +kernel
theorem tab_data {H : Type} : (Rows.laid_math_bits_deBruijn32tab : DataW H) = Lib.tabData .u8 tabZ := rfl
abbrev laidT : List (String × DataW Unit) := [("math/bits.deBruijn32tab", Rows.laid_math_bits_deBruijn32tab)]
theorem tab_of_laid {W : World} (h : laidMetH Tryd.prog laidT W) : TabW W := by
  rw [MakeChecks.laidMetH_plain _ _ _ (by kernel_rfl)] at h
  have hT := Lib.tabIs_of_head (k := .u8) (zs := tabZ) tab_named tab_type Tryd.underlying74 Tryd.underlying5 tab_cell1 tab_cells h
  intro i hi
  have := hT.cell tab_named (tzIdx i) (by have := tz_lt i; simpa [tabZ] using this)
  rw [tabZ_at ⟨i, hi⟩] at this
  exact this
theorem door_met (os : Os) (args : Array Value) : laidMetH Tryd.prog laidT ((World.doorLaid Tryd.prog 14 os).forCall (fun _ _ => 0) ⟨#[], args, []⟩).memory :=
  laidMetH_of_parts3 (fuel := 8) (laidMet_of_run' 8 (by kernel_rfl) (by kernel_rfl)) (by kernel_rfl) (by kernel_rfl)
end Go.Proofs.YtfjaohadjmigoaaDoor
