/-
  What the rows of this seat list: the library's two tables; what the walks are told of them.
-/
import Derived.Test.YtdfpcbbhapihiaaDoorMicro
import Derived.Test.YtdfpcbbhapihiaaDoorTie
import Derived.Test.YtdfpcbbhapihiaaDoorCards
import Derived.LaidMore
import Derived.Stop.LaidErr
import Derived.Stop.Joined
import Derived.Lib.LaidTab
import Derived.SevenTiedAt
namespace Go.Proofs.YtdfpcbbhapihiaaDoor
open Go.ChangeShapes Go.WideShapes Go.ChangeAt Go.RowKit Go.Deep Go.Joins micro
set_option linter.unusedVariables false

abbrev laidL : List (String × DataW Unit) := [("math/bits.deBruijn32tab", Rows.laid_math_bits_deBruijn32tab), ("math/bits.deBruijn64tab", Rows.laid_math_bits_deBruijn64tab)]
theorem door_met (os : Os) (args : Array Value) : laidMetH Tryd.prog laidL ((World.doorLaid Tryd.prog 400 os).forCall (fun _ _ => 0) ⟨#[], args, []⟩).memory :=
  laidMetH_of_parts3 (fuel := 8) (laidMet_of_run' 8 (by kernel_rfl) (by kernel_rfl)) (by kernel_rfl) (by kernel_rfl)
theorem tab_of_laid {W : World} (h : laidMetH Tryd.prog laidL W) : Tab W := by
  rw [MakeChecks.laidMetH_plain _ _ _ (by kernel_rfl)] at h
  have h2 := laidMet.tail h
  have ht : Lib.TabIs Tryd.prog W "math/bits.deBruijn64tab" .u8 dbTab :=
    Lib.tabIs_of_head (g := 1) (by kernel_rfl) (by kernel_rfl) Tryd.underlying65 Tryd.underlying5 (by kernel_rfl) (by kernel_rfl) h2
  intro i hi
  exact ht.cell (by kernel_rfl) i hi

end Go.Proofs.YtdfpcbbhapihiaaDoor
