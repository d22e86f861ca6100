/-
  A call without arguments, evaluated once: what it hands back in every world.
-/
import Derived.Test.YtcfnndmehnppnaaGreatFilesKnownF
import Derived.KernelRfl
set_option linter.unusedVariables false
namespace Go.Proofs.YtcfnndmehnppnaaGreat.filesKnown
open Go Go.Eng
noncomputable section
theorem run0 : resIsV (.bool true) (iterX CC tr0 LL S0 100 (.call 37 []) (start0 PP)) = true := by kernel_rfl
def S1 : Sums := sumAlso 37 (.bool true) S0
theorem ok1 : SumsOk PP S1 := sumAlso_ok ok0 rfl fun w => closedX cok tk0 ok0 rfl rfl run0 w
end
end Go.Proofs.YtcfnndmehnppnaaGreat.filesKnown
