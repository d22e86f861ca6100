/-
  The awake test of the path laws, run once, in any world.
-/
import Derived.Test.YtidadbppnmnfmaaGreatDoorPaF
import Derived.KernelRfl
namespace Go.Proofs.YtidadbppnmnfmaaGreatDoor.pa
open Go Go.Eng Go.RowKit
noncomputable section
theorem wakesRun : resIsV (.bool true) (iterX CC tr0 LL S0 100 (.call 13 []) (start0 PP)) = true := by kernel_rfl
theorem wakesCalls (w : World) : CallsIn Fence.wide 0 PP 13 #[] w fun e w' => e = .returned (.bool true) ∧ Below w.heap.size w w' := closedX cok tk0 ok0 rfl rfl wakesRun w
end
end Go.Proofs.YtidadbppnmnfmaaGreatDoor.pa
