/-
  The closed facts of the program. Made by program.
-/
import Derived.Test.YtobpahgkkpmpfaaGreatRows
import Derived.JoinedOf
import Derived.KernelRfl
namespace Go.Proofs
open Go
set_option maxRecDepth 100000
theorem factP1 : (laidOutB Tryz.prog) = true := by kernel_rfl
theorem factP2 : (mapsRowed Tryz.prog) = true := by kernel_rfl
theorem factP6 : ((Tryz.prog.stops == [])) = true := by kernel_rfl
theorem factP8 : ((Tryz.prog.stopKnobs == [])) = true := by kernel_rfl
theorem factP24 : (Tryz.prog.stopsHeard) = true := by kernel_rfl
theorem factP25 : (Tryz.prog.mayEnter) = true := by kernel_rfl
end Go.Proofs
