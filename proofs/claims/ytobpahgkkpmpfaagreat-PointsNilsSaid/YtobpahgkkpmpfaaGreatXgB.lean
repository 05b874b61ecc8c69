/- A part of the proof. -/
import Derived.Test.YtobpahgkkpmpfaaGreatXgA
set_option maxRecDepth 100000
set_option maxHeartbeats 0
namespace Go.Proofs
open Go Go.NL
noncomputable def run12 : Bool := match callE nfT.get prim (ev nfT.get prim 100000) 20 [] .e 0 with
  | some (.b true, _, _) => true
  | _ => false
theorem run12_ok : run12 = true := by kernel_rfl
end Go.Proofs
